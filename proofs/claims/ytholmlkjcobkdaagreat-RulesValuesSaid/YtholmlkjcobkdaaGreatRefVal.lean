/- The reference's Value. -/
import Derived.Test.YtholmlkjcobkdaaGreatRefV
namespace Go.Proofs.YtholmlkjcobkdaaGreat
set_option linter.all false
set_option linter.unusedSimpArgs false
set_option linter.unusedVariables false
open Go.RowKit
set_option maxRecDepth 100000

theorem text_len (t : Tm) : t.text.length ≤ 4 * t.size := by
  induction t with
  | v i => simp [Tm.size, Tm.text]
  | k b => simp [Tm.size, Tm.text]
  | u b t ih => simp only [Tm.size, Tm.text, List.length_cons, List.length_append, List.length_nil]; omega
  | p b s t ihs iht => simp only [Tm.size, Tm.text, List.length_cons, List.length_append, List.length_nil]; omega

theorem kidPos_get {s : Str} {i : Nat} {t : Tm} (h : termAt s i = some t) {d : Nat} {u : Tm} (hd : t.kids[d]? = some u) : ∃ pos : Nat, (kidPos i t)[d]? = some (pos : Int) ∧ termAt s pos = some u := by
  have hdr := termAt_drop h
  have hc : s[i]? = some t.symB := by
    obtain ⟨q, hq⟩ := text_head t
    have h0 : s[i]? = (s.drop i)[0]? := by rw [List.getElem?_drop]; rfl
    rw [h0, hdr, hq]; rfl
  cases t with
  | v j => simp [Tm.kids] at hd
  | k b => simp [Tm.kids] at hd
  | u b t =>
    obtain ⟨-, r, hr, -, hrt⟩ := (end_one hc _).1 h
    cases hrt
    match d, hd with
    | 0, hd => simp [Tm.kids] at hd; subst hd; exact ⟨i + 2, by simp [kidPos], hr⟩
  | p b s1 s2 =>
    obtain ⟨-, r1, hr1, -, r2, hr2, -, hrt⟩ := (end_two hc _).1 h
    cases hrt
    match d, hd with
    | 0, hd => simp [Tm.kids] at hd; subst hd; exact ⟨i + 2, by simp [kidPos], hr1⟩
    | 1, hd => simp [Tm.kids] at hd; subst hd; exact ⟨i + 2 + s1.text.length + 1, by simp [kidPos], hr2⟩

theorem kidPos_length (i : Nat) (t : Tm) : (kidPos i t).length = t.kids.length := by cases t <;> rfl

theorem rval_var (rd : List (List Int)) (v : Value) (i : Fin 3) (w : World) : Calls Tryz.prog 27 #[v, encS (Tm.v i).text] w (Vals ((Tm.v i).val rd) w) := by
  have hi : i = 0 ∨ i = 1 ∨ i = 2 := by omega
  rcases hi with rfl | rfl | rfl
  · have hix : ∀ W : World, (Instr.index 9 (.string ⟨#[120]⟩) (.int .i64 0)).run Tryz.prog W = .ok (.int .u8 120) W := fun W => by kernel_rfl
    show Calls Tryz.prog 27 #[v, .string ⟨#[120]⟩] w _
    go_enter Tryz.func27, Tryz.ntmps27
    go_wp2_with ((with_reducible refine (variable_any _ _).mono ?_); rintro e w1 ⟨rfl, rfl⟩)
    refine bodyPost_ret (v := .agg (vals _)) (by simp [results, Tryz.results27, go_sem]; rfl) rfl ⟨rfl, Ext.alloc (Ext.new _ _) _⟩
  · have hix : ∀ W : World, (Instr.index 9 (.string ⟨#[121]⟩) (.int .i64 0)).run Tryz.prog W = .ok (.int .u8 121) W := fun W => by kernel_rfl
    show Calls Tryz.prog 27 #[v, .string ⟨#[121]⟩] w _
    go_enter Tryz.func27, Tryz.ntmps27
    go_wp2_with ((with_reducible refine (variable_any _ _).mono ?_); rintro e w1 ⟨rfl, rfl⟩)
    refine bodyPost_ret (v := .agg (vals _)) (by simp [results, Tryz.results27, go_sem]; rfl) rfl ⟨rfl, Ext.alloc (Ext.new _ _) _⟩
  · have hix : ∀ W : World, (Instr.index 9 (.string ⟨#[122]⟩) (.int .i64 0)).run Tryz.prog W = .ok (.int .u8 122) W := fun W => by kernel_rfl
    show Calls Tryz.prog 27 #[v, .string ⟨#[122]⟩] w _
    go_enter Tryz.func27, Tryz.ntmps27
    go_wp2_with ((with_reducible refine (variable_any _ _).mono ?_); rintro e w1 ⟨rfl, rfl⟩)
    refine bodyPost_ret (v := .agg (vals _)) (by simp [results, Tryz.results27, go_sem]; rfl) rfl ⟨rfl, Ext.alloc (Ext.new _ _) _⟩

theorem part_there1 {f : Nat → Int} {wr w5 : World} (hE : Ext wr w5) : ∃ B10 : Nat, Value.pointer (some ⟨w5.heap.size, 0, none⟩) = .pointer (some ⟨B10, 0, none⟩) ∧ Bx (w5.alloc (.cells #[.int .i64 (f 0), .int .i64 (f 1), .int .i64 (f 2), .int .i64 (f 3)] 25)) B10 (vals f) 25 ∧ wr.heap.size ≤ B10 ∧
    Ext wr (w5.alloc (.cells #[.int .i64 (f 0), .int .i64 (f 1), .int .i64 (f 2), .int .i64 (f 3)] 25)) := ⟨_, rfl, Bx.new w5 _ _, hE.size, hE.trans (Ext.new _ _)⟩

theorem part_there2 {f : Nat → Int} {wr w5 : World} (hb : Bx w5 wr.heap.size #[.int .i64 0, .int .i64 0, .int .i64 0, .int .i64 0] 25) (hE : Ext wr w5) : ∃ B10 : Nat, Value.pointer (some ⟨wr.heap.size, 0, none⟩) = .pointer (some ⟨B10, 0, none⟩) ∧
    Bx ((((w5.setCell ⟨wr.heap.size, 0, none⟩ (.int .i64 (f 0))).setCell ⟨wr.heap.size, 1, none⟩ (.int .i64 (f 1))).setCell ⟨wr.heap.size, 2, none⟩ (.int .i64 (f 2))).setCell ⟨wr.heap.size, 3, none⟩ (.int .i64 (f 3))) B10 (vals f) 25 ∧ wr.heap.size ≤ B10 ∧
    Ext wr ((((w5.setCell ⟨wr.heap.size, 0, none⟩ (.int .i64 (f 0))).setCell ⟨wr.heap.size, 1, none⟩ (.int .i64 (f 1))).setCell ⟨wr.heap.size, 2, none⟩ (.int .i64 (f 2))).setCell ⟨wr.heap.size, 3, none⟩ (.int .i64 (f 3))) := by
  refine ⟨_, rfl, (((hb.set 0 (.int .i64 (f 0))).set 1 (.int .i64 (f 1))).set 2 (.int .i64 (f 2))).set 3 (.int .i64 (f 3)), Nat.le_refl _, ?_⟩
  exact hE.grown ((((grown_set w5 ⟨wr.heap.size, 0, none⟩ _).trans (grown_set _ ⟨wr.heap.size, 1, none⟩ _)).trans (grown_set _ ⟨wr.heap.size, 2, none⟩ _)).trans (grown_set _ ⟨wr.heap.size, 3, none⟩ _)) (some_le (Nat.le_refl _))

set_option maxHeartbeats 2000000 in
theorem rval_comp (rd : List (List Int)) (hrd : okRead rd = true) (v : Value) (t : Tm) (ht : t.isV = false) (hs : t.size ≤ 12) (w : World) (hv : IsRd w v rd)
    (ih : ∀ u ∈ t.kids, ∀ W, Ext w W → Calls Tryz.prog 27 #[v, encS u.text] W (Vals (u.val rd) W)) :
    Calls Tryz.prog 27 #[v, encS t.text] w (Vals (t.val rd) w) := by
  have htl := text_len t
  have htl2 : t.text.length ≤ 1000000000 := by omega
  have htm : termAt t.text 0 = some t := termAt_iff.2 ⟨[], by simp⟩
  obtain ⟨tq, htq⟩ := text_head t
  have hix := index_at t.text 0 t.symB (by rw [htq]; rfl) 0 rfl
  rw [symB_sym] at hix
  have hsin := symB_in ht
  have hvar : Calls Tryz.prog 74 #[.int .u8 t.sym] (w.alloc (.cells zero4 25)) fun e w' => e = .returned (.bool false) ∧ w.alloc (.cells zero4 25) = w' := by
    refine (variable_any t.sym _).mono fun e w' h => ⟨?_, h.2⟩
    rw [h.1]; congr 2
    have h1 := symB_sym t
    rw [decide_eq_false (by omega), Bool.false_and]
  have HVar := Lib.hid hvar
  have hst : ∀ W, Calls Tryz.prog 75 #[.string ⟨t.text.toArray⟩, .int .i64 0] W (Starts (kidPos 0 t) W) := fun W => starts_any t.text 0 t W htl2 htm
  have HSt := Lib.hid hst
  have HEn := Lib.hid (fun (i : Nat) W => End_any t.text htl2 i W)
  have HTm := Lib.hid htm
  have HTl := Lib.hid htl2
  obtain ⟨r, hri, hrg, hrl, hr0, hr2, hrj⟩ := okRead_row hrd (ix_lt ht)
  have hk := ix_kids ht
  rw [hk] at hrl hrj
  have hlen := okRead_length hrd
  obtain ⟨q, capv, hvv, hcapv, hcv⟩ := id hv
  obtain ⟨a, o, rv, rfl, hcell, hrow⟩ := hcv _ r hri
  subst hvv
  obtain ⟨n0, hn0⟩ : ∃ n, r[0]? = some n := ⟨_, List.getElem?_eq_getElem (by omega)⟩
  obtain ⟨qr, capr, rfl, hcapr, hcr⟩ := id hrow
  obtain ⟨b, ob, rfl, hb0⟩ := hcr 0 n0 hn0
  have hsym := ix_sym ht
  have hixl := ix_lt ht
  have hk2 := t.kids_le
  rw [hlen] at hcapv ih ⊢
  simp only [Nat.add_zero] at hb0
  have hr0' : (0 : Int) < (r.length : Int) := by omega
  have hr0n : 0 < r.length := by omega
  generalize hs97 : t.sym = sy at *
  generalize hix' : t.ix = ix at *
  have hsub : sy - 97 = (ix : Int) := by omega
  have hixl' : (ix : Int) < 6 := by omega
  have HT := Lib.hid ht
  have HRow := Lib.hid hcr
  have HRl := Lib.hid hrl
  have HRj := Lib.hid hrj
  have HN0 := Lib.hid hn0
  have HRd := Lib.hid hrd
  have HRg := Lib.hid hrg
  have HIx := Lib.hid hix'
  have IH := Lib.hid ih
  have HL := Lib.hid hlen
  have hsy : 97 ≤ sy ∧ sy ≤ 102 := by omega
  obtain ⟨hsy1, hsy2⟩ := hsy
  clear ht hcr hrl hrj hn0 hrd hrg hix' ih hlen hv hcv hri hrow hs97 hsym hk htl htl2 htm htq hsin hvar hst
  have ha := lt_of_cell hcell
  have hb := lt_of_cell hb0
  have ha1 : a < w.heap.size + 1 := by omega
  have hb1 : b < w.heap.size + 1 := by omega
  unfold encS zero4 at *
  go_enter Tryz.func27, Tryz.ntmps27
  go_upto_region 7 with (go_at_call 74; (with_reducible refine HVar.out.mono ?_); clear HVar; rintro e w1 ⟨rfl, rfl⟩)
  obtain ⟨W0, hW0, hz0, hz1, hE, hW0s⟩ := boxes2 w #[.int .i64 0, .int .i64 0, .int .i64 0, .int .i64 0] 25 #[.int .i64 n0, .int .i64 0, .int .i64 0, .int .i64 0] 25
  rw [hW0]
  have HE0 := Lib.hid hE
  have HZ00 := Lib.hid hz0
  have HZ10 := Lib.hid hz1
  clear hW0 hz0 hz1 hE hcell hb0 ha1 hb1 hsub hixl hixl' hsy1 hsy2 hcapv hix
  go_upto_region 8 with (go_at_call 75; (with_reducible refine (HSt.out _).mono ?_); clear HSt; rintro e w1 ⟨v8, rfl, hrow8, hE8, hbase8⟩; have HBase8 := Lib.hid hbase8; obtain ⟨q8, c8, rfl, hcap8, hcc8⟩ := hrow8; have HE := Lib.hid (HE0.out.trans hE8); have HZ0 := Lib.hid (HZ00.out.ext hE8); have HZ1 := Lib.hid (HZ10.out.ext hE8); have HCC8 := Lib.hid hcc8; clear hE8 hcc8 hbase8)
  rw [kidPos_length] at hcap8 ⊢
  generalize hn : w.heap.size = n at *
  have hstart : vals (valD rd t 0) = #[.int .i64 n0, .int .i64 0, .int .i64 0, .int .i64 0] := by
    have h1 : (rd.getD t.ix []).getD 0 0 = n0 := by rw [HIx.out, HRg.out]; simp [List.getD, HN0.out]
    unfold vals
    simp only [valD]
    rw [h1]; rfl
  have HSt0 := Lib.hid hstart
  have HNn := Lib.hid hn
  clear hstart hr0 hr2 hn HE0 HZ00 HZ10
  obtain ⟨W1, rfl⟩ : ∃ W1 : World, W1 = w1 := ⟨_, rfl⟩
  go_wp2_with fail
  go_loopg [9] t.kids.length (fun k i wr => ∃ d, d + k = t.kids.length ∧ i = .int .i64 d ∧ W1.grownBy wr (some (n + 1)) ∧ Bx wr n #[.int .i64 0, .int .i64 0, .int .i64 0, .int .i64 0] 25 ∧ Bx wr (n + 1) (vals (valD rd t d)) 25)
  case atStart => exact ⟨0, by simp, rfl, (Ext.refl _).grows' _, HZ0.out, by rw [HSt0.out]; exact HZ1.out⟩
  case round =>
    obtain ⟨d, hd, rfl, hE, hz0, hz1⟩ := hrel
    have hnw : w.heap.size ≤ n + 1 := by have := HNn.out; omega
    have HE' := Lib.hid (HE.out.grown hE (some_le hnw))
    have HE1 := Lib.hid hE
    have HY0 := Lib.hid hz0
    have HY1 := Lib.hid hz1
    clear hE hz0 hz1
    cases gk with
    | zero =>
      obtain rfl : d = t.kids.length := by omega
      have c0 := HY1.out.at 0 (y := .int .i64 (valD rd t t.kids.length 0)) rfl
      have c1 := HY1.out.at 1 (y := .int .i64 (valD rd t t.kids.length 1)) rfl
      have c2 := HY1.out.at 2 (y := .int .i64 (valD rd t t.kids.length 2)) rfl
      have c3 := HY1.out.at 3 (y := .int .i64 (valD rd t t.kids.length 3)) rfl
      have z0 := HY0.out.at 0 (y := .int .i64 0) rfl
      have z1 := HY0.out.at 1 (y := .int .i64 0) rfl
      have z2 := HY0.out.at 2 (y := .int .i64 0) rfl
      have z3 := HY0.out.at 3 (y := .int .i64 0) rfl
      have zf := HY0.out.free
      have hlt := HY0.out.lt
      rw [valD_all rd HT.out] at c0 c1 c2 c3
      go_wp2_with fail
      have hb4 := ((((HY0.out.set 0 (.int .i64 (t.val rd 0))).set 1 (.int .i64 (t.val rd 1))).set 2 (.int .i64 (t.val rd 2))).set 3 (.int .i64 (t.val rd 3)))
      have r0 := hb4.at 0 (y := .int .i64 (t.val rd 0)) rfl
      have r1 := hb4.at 1 (y := .int .i64 (t.val rd 1)) rfl
      have r2 := hb4.at 2 (y := .int .i64 (t.val rd 2)) rfl
      have r3 := hb4.at 3 (y := .int .i64 (t.val rd 3)) rfl
      refine bodyPost_ret (v := .agg (vals (t.val rd))) (by simp [results, Tryz.results27, go_sem, r0, r1, r2, r3]; rfl) rfl ⟨rfl, ?_⟩
      exact HE'.out.grown ((((grown_set wr ⟨n, 0, none⟩ _).trans (grown_set _ ⟨n, 1, none⟩ _)).trans (grown_set _ ⟨n, 2, none⟩ _)).trans (grown_set _ ⟨n, 3, none⟩ _)) (some_le (show w.heap.size ≤ n by have := HNn.out; omega))
    | succ k =>
      have hdl : d < t.kids.length := by omega
      have hdl' : (d : Int) < (t.kids.length : Int) := by omega
      have hd2 : (d : Int) + 1 ≤ 2 := by omega
      have hdr : (d : Int) + 1 < (r.length : Int) := by have := HRl.out; omega
      obtain ⟨u, hu⟩ : ∃ u, t.kids[d]? = some u := ⟨_, List.getElem?_eq_getElem hdl⟩
      obtain ⟨pos, hpos, hpt⟩ := kidPos_get HTm.out hu
      obtain ⟨g8, o8, rfl, hc8⟩ := HCC8.out d _ hpos
      have hg8 : n + 2 ≤ g8 := by have h := HBase8.out g8 rfl; omega
      have hc8' := HE1.out.cell (a := ⟨g8, o8 + d, none⟩) hc8 (ne_some (show g8 ≠ n + 1 by omega))
      have hg8lt := lt_of_cell hc8'
      have hen : ∀ W, Calls Tryz.prog 72 #[.string ⟨t.text.toArray⟩, .int .i64 (pos : Int)] W fun e w' => e = .returned (.int .i64 ((pos + u.text.length : Nat) : Int)) ∧ W = w' := fun W => by
        have h := HEn.out pos W
        unfold End0 at h
        rw [endI_some hpt] at h
        exact h
      have hsl := slice_str t.text pos (pos + u.text.length) u.text (termAt_iff.1 hpt) rfl (termAt_end hpt)
      generalize pos + u.text.length = pe at hen hsl
      have HEnd := Lib.hid hen
      obtain ⟨rj, hrj⟩ : ∃ rj, r[1 + d]? = some rj := ⟨_, List.getElem?_eq_getElem (by have := HRl.out; omega)⟩
      have hbj : w.cell? ⟨b, ob + (d + 1), none⟩ = some (.int .i64 rj) := by
        obtain ⟨b', ob', e1, h⟩ := HRow.out (1 + d) rj hrj
        cases e1; rw [Nat.add_comm d 1]; exact h
      have hus := kid_size hu
      have hrjb := HRj.out d hdl
      have hgj : r.getD (1 + d) 0 = rj := by simp [List.getD, hrj]
      rw [hgj] at hrjb
      have HIh := Lib.hid (fun W he => IH.out u (List.mem_of_getElem? hu) W he)
      have HU := Lib.hid hu
      have HBj := Lib.hid hbj
      have HGj := Lib.hid hgj
      have HRjb := Lib.hid hrjb
      clear hu hpos hpt hen hrj hbj hrjb hgj hc8
      unfold encS at hsl
      go_wp2_with fail
      go_cut [10] (fun v wc => ∃ B10 : Nat, v = .pointer (some ⟨B10, 0, none⟩) ∧ Bx wc B10 (vals (u.val rd)) 25 ∧ wr.heap.size ≤ B10 ∧ Ext wr wc)
      case first =>
        go_wp2_with fail
        go_region_law (first
          | (go_simp; go_at_call 72; (with_reducible refine (HEnd.out _).mono ?_); rintro e w1 ⟨rfl, rfl⟩)
          | (go_simp; go_at_call 27; (with_reducible refine (HIh.out wr.drew (HE'.out.trans (Ext.refl wr).drew)).mono ?_); rintro e w5 ⟨rfl, hE5⟩; unfold vals; have HE5 : Hid (Ext wr w5) := Lib.hid hE5.undrew; clear hE5)
          | (go_simp; go_at_call 27; (with_reducible refine (HIh.out (wr.alloc (.cells #[.int .i64 0, .int .i64 0, .int .i64 0, .int .i64 0] 25)).drew (HE'.out.trans (Ext.new wr _).drew)).mono ?_); rintro e w5 ⟨rfl, hE5⟩; unfold vals; have HE5 : Hid (Ext wr w5) := Lib.hid (Ext.trans (Ext.new wr _).drew hE5); have hbB : Bx w5 wr.heap.size #[.int .i64 0, .int .i64 0, .int .i64 0, .int .i64 0] 25 := Bx.ext (Bx.new wr #[.int .i64 0, .int .i64 0, .int .i64 0, .int .i64 0] 25).drew hE5; have k0 := hbB.at 0 (y := .int .i64 0) rfl; have k1 := hbB.at 1 (y := .int .i64 0) rfl; have k2 := hbB.at 2 (y := .int .i64 0) rfl; have k3 := hbB.at 3 (y := .int .i64 0) rfl; have kf := hbB.free; have HBB := Lib.hid hbB; clear hE5 hbB))
        all_goals
          go_wp2_with fail
          go_meet
          first
            | (with_reducible exact @part_there2 (u.val rd) wr w5 HBB.out HE5.out)
            | (with_reducible exact @part_there1 (u.val rd) wr w5 HE5.out)
      case rest =>
        obtain ⟨B10, rfl, hb10, hB10, hE10⟩ := hcut
        have HE10 := Lib.hid hE10
        have HB10 := Lib.hid hb10
        have HX0 := Lib.hid (HY0.out.ext hE10)
        have HX1 := Lib.hid (HY1.out.ext hE10)
        have hnB : n + 1 < wr.heap.size := HY1.out.lt
        clear hE10 hb10 hsl hc8'
        go_wp2_with fail
        have hBn : B10 ≠ n + 1 := by omega
        obtain ⟨wo, rfl⟩ : ∃ wo : World, wo = wr := ⟨_, rfl⟩
        go_loopg [11] 4 (fun k j wz => ∃ m, m + k = 4 ∧ j = .int .i64 m ∧ W1.grownBy wz (some (n + 1)) ∧ Bx wz B10 (vals (u.val rd)) 25 ∧ Bx wz n #[.int .i64 0, .int .i64 0, .int .i64 0, .int .i64 0] 25 ∧ Bx wz (n + 1) (vals fun i => if i < m then valD rd t (d + 1) i else valD rd t d i) 25)
        case atStart => exact ⟨0, rfl, rfl, HE1.out.trans (HE10.out.grows' _), HB10.out, HX0.out, by simpa using HX1.out⟩
        case round =>
          obtain ⟨m, hm, rfl, hE3, hq10, hq0, hq1⟩ := hrel
          have HQ10 := Lib.hid hq10
          have HG3 := Lib.hid hE3
          have HE3 := Lib.hid (HE.out.grown hE3 (some_le hnw))
          have HQ0 := Lib.hid hq0
          have HQ1 := Lib.hid hq1
          clear hE3 hq10 hq0 hq1
          cases gk with
          | zero =>
            obtain rfl : m = 4 := by omega
            go_wp2_with fail
            go_roundg k
            case measure => omega
            case rel =>
              refine ⟨d + 1, by omega, congrArg (Value.int .i64) (by omega), HG3.out, HQ0.out, ?_⟩
              have h := HQ1.out
              rwa [vals_congr (g := valD rd t (d + 1)) (fun i hi => by rw [if_pos hi])] at h
          | succ k4 =>
            have hm4 : m < 4 := by omega
            have hm4' : (m : Int) < 4 := by omega
            have hc5 := (HQ1.out.cell m).trans (vals_at _ hm4)
            rw [if_neg (by omega)] at hc5
            have hf5 := HQ1.out.free m
            have hlt5 := HQ1.out.lt
            have hbj := HE3.out.cell HBj.out
            have hp10 := (HQ10.out.cell m).trans (vals_at _ hm4)
            have hx := valD_bd HRd.out HT.out hs m d (by omega)
            have hy := val_small HRd.out (t := u) (by omega) m
            have hP := mul_bd HRjb.out.1 HRjb.out.2 hy.1 hy.2
            have hnew : valD rd t (d + 1) m = valD rd t d m + rj * u.val rd m := by
              simp only [valD, HU.out, HIx.out, HRg.out, HGj.out]
            have HNew := Lib.hid hnew
            clear hnew
            obtain ⟨hx0, hx1⟩ := hx
            obtain ⟨hy0, hy1⟩ := hy
            obtain ⟨hP0, hP1⟩ := hP
            generalize hxx : valD rd t d m = X at hc5 hx0 hx1 HNew
            generalize hyy : u.val rd m = Y at hp10 hy0 hy1 hP0 hP1 HNew
            have hX2 : X ≤ 67108866 := by omega
            have hmul : IntKind.i64.wrap (rj * Y) = rj * Y := IntWalk.i64_in _ (by omega)
            have hs1 : IntKind.i64.wrap ((d : Int) + 1) = (d : Int) + 1 := IntWalk.i64_in _ (by omega)
            have hs2 : (0 : Int) ≤ (d : Int) + 1 := by omega
            have hs3 : ((d : Int) + 1).toNat = d + 1 := by omega
            have hs4 : IntKind.i64.wrap (X + rj * Y) = X + rj * Y := IntWalk.i64_in _ (by omega)
            clear hxx hyy hx1
            go_wp2_with fail
            go_still_tail 15, (by kernel_rfl)
            change wpList _ _ _ _ _ wr.drew
            go_wp2_with fail
            go_roundg k4
            case measure => omega
            case rel =>
              have hset := HQ1.out.set m (.int .i64 (X + rj * Y))
              rw [vals_set _ hm4] at hset
              refine ⟨m + 1, by omega, congrArg (Value.int .i64) (by omega), ?_, (HQ10.out.other (p := ⟨n + 1, m, none⟩) hBn _).drew, (HQ0.out.other (p := ⟨n + 1, m, none⟩) (show n ≠ n + 1 by omega) _).drew, ?_⟩
              · exact (HG3.out.trans (grown_set wr ⟨n + 1, m, none⟩ _)).trans ((Ext.refl _).drew.grows' _)
              · have hv : (vals fun i => if i < m + 1 then valD rd t (d + 1) i else valD rd t d i) = vals fun k => if k = m then X + rj * Y else if k < m then valD rd t (d + 1) k else valD rd t d k := by
                  refine vals_congr fun i hi => ?_
                  by_cases him : i = m
                  · subst him; rw [if_pos (by omega), if_pos rfl, HNew.out]
                  · rw [if_neg him]
                    by_cases hl : i < m
                    · rw [if_pos hl, if_pos (by omega)]
                    · rw [if_neg hl, if_neg (by omega)]
                rw [hv]
                exact hset.drew

theorem rval_any (rd : List (List Int)) (hrd : okRead rd = true) (v : Value) : ∀ (t : Tm) (w : World), t.size ≤ 12 → IsRd w v rd → Calls Tryz.prog 27 #[v, encS t.text] w (Vals (t.val rd) w) := by
  intro t
  induction t with
  | v i => exact fun w hs hv => rval_var rd v i w
  | k b => exact fun w hs hv => rval_comp rd hrd v _ rfl hs w hv fun u hu => by simp [Tm.kids] at hu
  | u b t ih =>
    intro w hs hv
    refine rval_comp rd hrd v _ rfl hs w hv fun u hu W he => ?_
    simp only [Tm.size] at hs
    simp only [Tm.kids, List.mem_singleton] at hu
    subst hu
    exact ih W (by omega) (hv.ext he)
  | p b s t ihs iht =>
    intro w hs hv
    refine rval_comp rd hrd v _ rfl hs w hv fun u hu W he => ?_
    simp only [Tm.size] at hs
    simp only [Tm.kids, List.mem_cons, List.not_mem_nil, or_false] at hu
    rcases hu with rfl | rfl
    · exact ihs W (by omega) (hv.ext he)
    · exact iht W (by omega) (hv.ext he)

end Go.Proofs.YtholmlkjcobkdaaGreat
