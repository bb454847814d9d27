/- The value of a term. -/
import Derived.Test.YtholmlkjcobkdaaGreatVal
namespace Go.Proofs.YtholmlkjcobkdaaGreat
set_option linter.all false
set_option linter.unusedSimpArgs false
set_option linter.unusedVariables false
open Go.RowKit
set_option maxRecDepth 100000

/-- What finding a value comes to. -/
def Vals (f : Nat → Int) (w : World) (e : Ending) (w' : World) : Prop := e = .returned (.agg (vals f)) ∧ Ext w w'

theorem of_v (v : Value) (n : Int) (hn : n = 120 ∨ n = 121 ∨ n = 122) (w : World) (h1 : ∀ W, (Instr.typeAssert (.iface 131 (.int .u8 n)) 99 131 true).run Tryz.prog W = .ok (.tuple #[.int .u8 n, .bool true]) W) :
    Calls Tryz.prog 70 #[v, .iface 131 (.int .u8 n)] w (Vals (fun m => if (m : Int) = n - 119 then 1 else 0) w) := by
  rcases hn with rfl | rfl | rfl
  all_goals
    go_enter Tryz.func70, Tryz.ntmps70
    go_wp2_with fail
    refine bodyPost_ret (v := .agg (vals _)) (by simp [results, Tryz.results70, go_sem]; rfl) rfl ⟨rfl, ?_⟩
    exact Ext.alloc (Ext.new _ _) _

theorem of_var (rd : List (List Int)) (v : Value) (i : Fin 3) (w : World) : Calls Tryz.prog 70 #[v, tV i] w (Vals ((Tm.v i).val rd) w) := by
  refine (of_v v (vI i) (by unfold vI; omega) w (as_vv i)).mono ?_
  rintro e w' ⟨rfl, hE⟩
  refine ⟨?_, hE⟩
  congr 2
  refine vals_congr fun m hm => ?_
  show (if (m : Int) = vI i - 119 then (1 : Int) else 0) = if m = i.val + 1 then 1 else 0
  have hv : vI i = 120 + (i.val : Int) := rfl
  split <;> split <;> omega

theorem index_val (f : Nat → Int) (m : Nat) (hm : m < 4) : ∀ W : World, (Instr.index 102 (.agg (vals f)) (.int .i64 m)).run Tryz.prog W = .ok (.int .i64 (f m)) W := by
  have : m = 0 ∨ m = 1 ∨ m = 2 ∨ m = 3 := by omega
  rcases this with rfl | rfl | rfl | rfl <;> (intro W; kernel_rfl)

set_option maxHeartbeats 4000000 in
theorem of_comp (rd : List (List Int)) (hrd : okRead rd = true) (v : Value) (t : Tm) (ht : t.isV = false) (hs : t.size ≤ 12) (x : Value) (w : World) (hv : IsRd w v rd) (hx : IsT Any w t x)
    (ih : ∀ u ∈ t.kids, ∀ y W, Ext w W → IsT Any W u y → Calls Tryz.prog 70 #[v, y] W (Vals (u.val rd) W)) :
    Calls Tryz.prog 70 #[v, x] w (Vals (t.val rd) w) := by
  obtain ⟨p, cap, xs, rfl, hpa⟩ := hx.parts ht
  have a1 := as_cv t.sym (.slice p t.kids.length cap)
  have a2 := as_cc t.sym (.slice p t.kids.length cap)
  obtain ⟨r, hri, hrg, hrl, hr0, hr2, hrj⟩ := okRead_row hrd (ix_lt ht)
  have hk := ix_kids ht
  rw [hk] at hrl hrj
  have hlen := okRead_length hrd
  obtain ⟨q, capv, hvv, hcapv, hcv⟩ := id hv
  obtain ⟨a, o, rv, rfl, hcell, hrow⟩ := hcv _ r hri
  subst hvv
  obtain ⟨n0, hn0⟩ : ∃ n, r[0]? = some n := ⟨_, List.getElem?_eq_getElem (by omega)⟩
  obtain ⟨qr, capr, rfl, hcapr, hcr⟩ := id hrow
  obtain ⟨b, ob, rfl, hb0⟩ := hcr 0 n0 hn0
  have hsym := ix_sym ht
  have hixl := ix_lt ht
  have hk2 := t.kids_le
  rw [hlen] at hcapv ih ⊢
  simp only [Nat.add_zero] at hb0
  have hr0' : (0 : Int) < (r.length : Int) := by omega
  generalize hs97 : t.sym = sy at *
  generalize hix : t.ix = ix at *
  have hsub : sy - 97 = (ix : Int) := by omega
  have hixl' : (ix : Int) < 6 := by omega
  have HT := Lib.hid ht
  have HPa := Lib.hid hpa
  have HRow := Lib.hid hcr
  have HRl := Lib.hid hrl
  have HRj := Lib.hid hrj
  have HN0 := Lib.hid hn0
  have HRd := Lib.hid hrd
  have HRg := Lib.hid hrg
  have HIx := Lib.hid hix
  have IH := Lib.hid ih
  have HL := Lib.hid hlen
  have hsy : 97 ≤ sy ∧ sy ≤ 102 := by omega
  obtain ⟨hsy1, hsy2⟩ := hsy
  clear ht hpa hcr hrl hrj hn0 hrd hrg hix ih hlen hv hx hcv hri hrow hs97 hsym hk
  unfold tC at *
  have ha := lt_of_cell hcell
  have hb := lt_of_cell hb0
  have ha1 : a < w.heap.size + 1 := by omega
  have ha2 : a < w.heap.size + 1 + 1 := by omega
  have hb1 : b < w.heap.size + 1 := by omega
  have hb2 : b < w.heap.size + 1 + 1 := by omega
  go_enter Tryz.func70, Tryz.ntmps70
  go_wp2_with fail
  obtain ⟨W0, hW0, hz0, hz1, -, hE, -⟩ := boxes3 w #[.int .i64 0, .int .i64 0, .int .i64 0, .int .i64 0] 102 #[.int .i64 n0, .int .i64 0, .int .i64 0, .int .i64 0] 102 #[.int .u8 sy, .slice p t.kids.length cap] 149
  rw [hW0]
  generalize hn : w.heap.size = n at *
  have HZ0 := Lib.hid hz0
  have HZ1 := Lib.hid hz1
  have HE := Lib.hid hE
  have HCell := Lib.hid hcell
  clear hW0 hz0 hz1 hE hcell hb0 a1 a2 ha1 ha2 hb1 hb2 hsub hixl hixl' hsy1 hsy2 hcapv
  have hstart : vals (valD rd t 0) = #[.int .i64 n0, .int .i64 0, .int .i64 0, .int .i64 0] := by
    have h1 : (rd.getD t.ix []).getD 0 0 = n0 := by rw [HIx.out, HRg.out]; simp [List.getD, HN0.out]
    unfold vals
    simp only [valD]
    rw [h1]; rfl
  have HSt := Lib.hid hstart
  have HNn := Lib.hid hn
  clear hstart hr0 hr2 hn
  go_loopg [37] t.kids.length (fun k i wr => ∃ d, d + k = t.kids.length ∧ i = .int .i64 d ∧ Ext w wr ∧ Bx wr n #[.int .i64 0, .int .i64 0, .int .i64 0, .int .i64 0] 102 ∧ Bx wr (n + 1) (vals (valD rd t d)) 102)
  case atStart => exact ⟨0, by simp, rfl, HE.out, HZ0.out, by rw [HSt.out]; exact HZ1.out⟩
  case round =>
    obtain ⟨d, hd, rfl, hE, hz0, hz1⟩ := hrel
    have HE' := Lib.hid hE
    have HY0 := Lib.hid hz0
    have HY1 := Lib.hid hz1
    clear hE hz0 hz1
    cases gk with
    | zero =>
      obtain rfl : d = t.kids.length := by omega
      have c0 := HY1.out.at 0 (y := .int .i64 (valD rd t t.kids.length 0)) rfl
      have c1 := HY1.out.at 1 (y := .int .i64 (valD rd t t.kids.length 1)) rfl
      have c2 := HY1.out.at 2 (y := .int .i64 (valD rd t t.kids.length 2)) rfl
      have c3 := HY1.out.at 3 (y := .int .i64 (valD rd t t.kids.length 3)) rfl
      have z0 := HY0.out.at 0 (y := .int .i64 0) rfl
      have z1 := HY0.out.at 1 (y := .int .i64 0) rfl
      have z2 := HY0.out.at 2 (y := .int .i64 0) rfl
      have z3 := HY0.out.at 3 (y := .int .i64 0) rfl
      have zf := HY0.out.free
      have hlt := HY0.out.lt
      rw [valD_all rd HT.out] at c0 c1 c2 c3
      have HC1 := Lib.hid HY1.out
      go_wp2_with fail
      have hb4 := ((((HY0.out.set 0 (.int .i64 (t.val rd 0))).set 1 (.int .i64 (t.val rd 1))).set 2 (.int .i64 (t.val rd 2))).set 3 (.int .i64 (t.val rd 3)))
      have r0 := hb4.at 0 (y := .int .i64 (t.val rd 0)) rfl
      have r1 := hb4.at 1 (y := .int .i64 (t.val rd 1)) rfl
      have r2 := hb4.at 2 (y := .int .i64 (t.val rd 2)) rfl
      have r3 := hb4.at 3 (y := .int .i64 (t.val rd 3)) rfl
      refine bodyPost_ret (v := .agg (vals (t.val rd))) (by simp [results, Tryz.results70, go_sem, r0, r1, r2, r3]; rfl) rfl ⟨rfl, ?_⟩
      exact HE'.out.grown ((((grown_set wr ⟨n, 0, none⟩ _).trans (grown_set _ ⟨n, 1, none⟩ _)).trans (grown_set _ ⟨n, 2, none⟩ _)).trans (grown_set _ ⟨n, 3, none⟩ _)) (some_le (show w.heap.size ≤ n by have := HNn.out; omega))
    | succ k =>
      have hdl : d < t.kids.length := by omega
      have hdl' : (d : Int) < (t.kids.length : Int) := by omega
      have hd2 : (d : Int) + 1 ≤ 2 := by omega
      have hdr : (1 : Int) + (d : Int) < (r.length : Int) := by have := HRl.out; omega
      obtain ⟨u, hu⟩ : ∃ u, t.kids[d]? = some u := ⟨_, List.getElem?_eq_getElem hdl⟩
      obtain ⟨e, oe, T, z, rfl, hz, hzu⟩ := HPa.out.get hu
      have hz' := HE'.out.cell hz
      have HC := Lib.hid (IH.out u (List.mem_of_getElem? hu) _ wr HE'.out (hzu.ext HE'.out))
      obtain ⟨rj, hrj⟩ : ∃ rj, r[1 + d]? = some rj := ⟨_, List.getElem?_eq_getElem (by have := HRl.out; omega)⟩
      have hbj : w.cell? ⟨b, ob + (1 + d), none⟩ = some (.int .i64 rj) := by
        obtain ⟨b', ob', e1, h⟩ := HRow.out (1 + d) rj hrj
        cases e1; exact h
      have hus := kid_size hu
      have hrjb := HRj.out d hdl
      have hgj : r.getD (1 + d) 0 = rj := by simp [List.getD, hrj]
      rw [hgj] at hrjb
      have HU := Lib.hid hu
      have HBj := Lib.hid hbj
      have HGj := Lib.hid hgj
      have HRjb := Lib.hid hrjb
      clear hu hz hzu hrj hbj hrjb hgj
      go_wp2_with ((with_reducible refine HC.out.mono ?_); clear HC; rintro e1 w2 ⟨rfl, hE2⟩; have HE2 := Lib.hid (HE'.out.trans hE2); have HX0 := Lib.hid (HY0.out.ext hE2); have HX1 := Lib.hid (HY1.out.ext hE2); clear hE2)
      go_loopg [45] 4 (fun k j wr => ∃ m, m + k = 4 ∧ j = .int .i64 m ∧ Ext w wr ∧ Bx wr n #[.int .i64 0, .int .i64 0, .int .i64 0, .int .i64 0] 102 ∧ Bx wr (n + 1) (vals fun i => if i < m then valD rd t (d + 1) i else valD rd t d i) 102)
      case atStart => exact ⟨0, rfl, rfl, HE2.out, HX0.out, by simpa using HX1.out⟩
      case round =>
        obtain ⟨m, hm, rfl, hE3, hq0, hq1⟩ := hrel
        have HE3 := Lib.hid hE3
        have HQ0 := Lib.hid hq0
        have HQ1 := Lib.hid hq1
        clear hE3 hq0 hq1
        cases gk with
        | zero =>
          obtain rfl : m = 4 := by omega
          go_wp2_with fail
          go_roundg k
          case measure => omega
          case rel =>
            refine ⟨d + 1, by omega, congrArg (Value.int .i64) (by omega), HE3.out, HQ0.out, ?_⟩
            have h := HQ1.out
            rwa [vals_congr (g := valD rd t (d + 1)) (fun i hi => by rw [if_pos hi])] at h
        | succ k4 =>
          have hm4 : m < 4 := by omega
          have hm4' : (m : Int) < 4 := by omega
          have hix := index_val (u.val rd) m hm4
          have hc5 := (HQ1.out.cell m).trans (vals_at _ hm4)
          rw [if_neg (by omega)] at hc5
          have hf5 := HQ1.out.free m
          have hlt5 := HQ1.out.lt
          have hbj := HE3.out.cell HBj.out
          have hx := valD_bd HRd.out HT.out hs m d (by omega)
          have hy := val_small HRd.out (t := u) (by omega) m
          have hP := mul_bd HRjb.out.1 HRjb.out.2 hy.1 hy.2
          have hnew : valD rd t (d + 1) m = valD rd t d m + rj * u.val rd m := by
            simp only [valD, HU.out, HIx.out, HRg.out, HGj.out]
          have HNew := Lib.hid hnew
          clear hnew
          obtain ⟨hx0, hx1⟩ := hx
          obtain ⟨hy0, hy1⟩ := hy
          obtain ⟨hP0, hP1⟩ := hP
          generalize hxx : valD rd t d m = X at hc5 hx0 hx1 HNew
          generalize hyy : u.val rd m = Y at hix hy0 hy1 hP0 hP1 HNew
          have hX2 : X ≤ 67108866 := by omega
          have hmul : IntKind.i64.wrap (rj * Y) = rj * Y := IntWalk.i64_in _ (by omega)
          have hs1 : IntKind.i64.wrap (1 + (d : Int)) = 1 + (d : Int) := IntWalk.i64_in _ (by omega)
          have hs2 : (0 : Int) ≤ 1 + (d : Int) := by omega
          have hs3 : (1 + (d : Int)).toNat = 1 + d := by omega
          have hs4 : IntKind.i64.wrap (X + rj * Y) = X + rj * Y := IntWalk.i64_in _ (by omega)
          clear hxx hyy hx1
          go_wp2_with fail
          go_still_tail 12, (by kernel_rfl)
          change wpList _ _ _ _ _ wr.drew
          go_wp2_with fail
          go_roundg k4
          case measure => omega
          case rel =>
            have hset := HQ1.out.set m (.int .i64 (X + rj * Y))
            rw [vals_set _ hm4] at hset
            refine ⟨m + 1, by omega, congrArg (Value.int .i64) (by omega), ?_, (HQ0.out.other (p := ⟨n + 1, m, none⟩) (show n ≠ n + 1 by omega) _).drew, ?_⟩
            · exact (HE3.out.grown (grown_set wr ⟨n + 1, m, none⟩ _) (some_le (show w.heap.size ≤ n + 1 by have := HNn.out; omega))).drew
            · have hv : (vals fun i => if i < m + 1 then valD rd t (d + 1) i else valD rd t d i) = vals fun k => if k = m then X + rj * Y else if k < m then valD rd t (d + 1) k else valD rd t d k := by
                refine vals_congr fun i hi => ?_
                by_cases him : i = m
                · subst him; rw [if_pos (by omega), if_pos rfl, HNew.out]
                · rw [if_neg him]
                  by_cases hl : i < m
                  · rw [if_pos hl, if_pos (by omega)]
                  · rw [if_neg hl, if_neg (by omega)]
              rw [hv]
              exact hset.drew

/-- The value of any term that is small. -/
theorem of_all (rd : List (List Int)) (hrd : okRead rd = true) (v : Value) : ∀ (t : Tm) (x : Value) (w : World), t.size ≤ 12 → IsRd w v rd → IsT Any w t x → Calls Tryz.prog 70 #[v, x] w (Vals (t.val rd) w) := by
  intro t
  induction t with
  | v i => rintro x w hs hv rfl; exact of_var rd v i w
  | k b => exact fun x w hs hv hx => of_comp rd hrd v _ rfl hs x w hv (hx.mono fun _ _ => trivial) fun u hu => by simp [Tm.kids] at hu
  | u b t ih =>
    intro x w hs hv hx
    refine of_comp rd hrd v _ rfl hs x w hv (hx.mono fun _ _ => trivial) fun u hu y W he hy => ?_
    simp only [Tm.size] at hs
    simp only [Tm.kids, List.mem_singleton] at hu
    subst hu
    exact ih y W (by omega) (hv.ext he) hy
  | p b s t ihs iht =>
    intro x w hs hv hx
    refine of_comp rd hrd v _ rfl hs x w hv (hx.mono fun _ _ => trivial) fun u hu y W he hy => ?_
    simp only [Tm.size] at hs
    simp only [Tm.kids, List.mem_cons, List.not_mem_nil, or_false] at hu
    rcases hu with rfl | rfl
    · exact ihs y W (by omega) (hv.ext he) hy
    · exact iht y W (by omega) (hv.ext he) hy

end Go.Proofs.YtholmlkjcobkdaaGreat
