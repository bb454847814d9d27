/- Orient: the precedences in ascending order. -/
import Derived.Test.YtholmlkjcobkdaaGreatConB
namespace Go.Proofs.YtholmlkjcobkdaaGreat
set_option linter.all false
set_option linter.unusedSimpArgs false
set_option linter.unusedVariables false
open Go.RowKit
set_option maxRecDepth 100000

/-- The first string that continues s by n symbols, each once, for which f holds. -/
def extS (f : Str → Bool) : Nat → Str → Option Str
  | 0, s => if f s then some s else none
  | n + 1, s => symsB.findSome? fun c => if c ∈ s then none else extS f n (s ++ [c])

/-- s is made of symbols, each once. -/
def SymS (s : Str) : Prop := s.Nodup ∧ ∀ c ∈ s, c ∈ symsB

theorem SymS.snoc {s : Str} {c : UInt8} (h : SymS s) (hc : c ∈ symsB) (hn : c ∉ s) : SymS (s ++ [c]) := by
  refine ⟨?_, fun x hx => ?_⟩
  · rw [List.nodup_append]
    exact ⟨h.1, by simp, fun a ha b hb => by simp at hb; subst hb; exact fun e => hn (e ▸ ha)⟩
  · rcases List.mem_append.1 hx with h1 | h1
    · exact h.2 x h1
    · simp at h1; subst h1; exact hc

theorem sub_all {s : Str} (h : SymS s) (hl : s.length = 6) : okPrec s = true := by
  simp only [okPrec, Bool.and_eq_true, decide_eq_true_eq, List.all_eq_true]
  refine ⟨hl, fun c hc => ?_⟩
  by_cases hin : c ∈ s
  · exact hin
  · have h1 := nodup_sub (l := c :: s) (m := symsB) (List.nodup_cons.2 ⟨hin, h.1⟩) fun x hx => by
      rcases List.mem_cons.1 hx with rfl | hx
      · exact hc
      · exact h.2 x hx
    simp [symsB] at h1
    omega

/-- What the search keeps of the world. -/
structure OJ (ls : List (Tm × Tm)) (v : Value) (O L X : Nat) (W0 : World) (o : Str) (W : World) : Prop where
  l : IsLaws Any W v ls
  bl : Bx W L #[v] 109
  bx : Bx W X #[.func (.func 86) #[] #[.pointer (some ⟨O, 0, none⟩), .pointer (some ⟨L, 0, none⟩), .pointer (some ⟨X, 0, none⟩)]] 31
  bo : Bx W O #[encS o] 9
  gr : W0.grownBy W (some O)

theorem OJ.ext {ls : List (Tm × Tm)} {v : Value} {O L X : Nat} {W0 : World} {o : Str} {W W' : World} (h : OJ ls v O L X W0 o W) (he : Ext W W') : OJ ls v O L X W0 o W' :=
  ⟨h.l.keep he.size (fun _ _ _ hc => he.cell hc) (fun _ h => h), h.bl.ext he, h.bx.ext he, h.bo.ext he, h.gr.trans (he.grows' _)⟩

theorem IsT.keepI {S : Nat → Prop} {w w' : World} (h : ∀ a o T y, w.cell? ⟨a, o, none⟩ = some (.iface T y) → w'.cell? ⟨a, o, none⟩ = some (.iface T y)) : ∀ {t : Tm} {x : Value}, IsT S w t x → IsT S w' t x := by
  intro t
  induction t with
  | v i => intro x hx; exact hx
  | k b => intro x hx; exact hx
  | u b t ih =>
    rintro x ⟨a, o, cap, y, rfl, hS, hc, ht⟩
    obtain ⟨T, y, rfl⟩ := ht.iface
    exact ⟨a, o, cap, _, rfl, hS, h _ _ _ _ hc, ih ht⟩
  | p b s t ihs iht =>
    rintro x ⟨a, o, cap, y, z, rfl, hS, hc, hd, hs, ht⟩
    obtain ⟨T, y, rfl⟩ := hs.iface
    obtain ⟨U, z, rfl⟩ := ht.iface
    exact ⟨a, o, cap, _, _, rfl, hS, h _ _ _ _ hc, h _ _ _ _ hd, ihs hs, iht ht⟩

theorem AllT.keepI {S : Nat → Prop} {w w' : World} (h : ∀ a o T y, w.cell? ⟨a, o, none⟩ = some (.iface T y) → w'.cell? ⟨a, o, none⟩ = some (.iface T y)) :
    ∀ {ts : List Tm} {xs : List Value}, AllT S w ts xs → AllT S w' ts xs
  | [], [], _ => trivial
  | _ :: _, _ :: _, hx => ⟨hx.1.keepI h, AllT.keepI h hx.2⟩

theorem AllT.ifaces {S : Nat → Prop} {w : World} : ∀ {ts : List Tm} {xs : List Value}, AllT S w ts xs → ∀ (j : Nat) (x : Value), xs[j]? = some x → ∃ T y, x = Value.iface T y
  | [], [], _, j, x, h => by simp at h
  | _ :: _, _ :: _, hx, 0, x, h => by simp at h; subst h; exact hx.1.iface
  | _ :: _, _ :: _, hx, j + 1, x, h => by simp at h; exact AllT.ifaces hx.2 j x h

theorem IsLaws.keepI {S : Nat → Prop} {w w' : World} {v : Value} {ls : List (Tm × Tm)} (hz : w.heap.size ≤ w'.heap.size) (h : ∀ a o T y, w.cell? ⟨a, o, none⟩ = some (.iface T y) → w'.cell? ⟨a, o, none⟩ = some (.iface T y)) (hl : IsLaws S w v ls) : IsLaws S w' v ls := by
  rcases hl with h1 | ⟨a, o, cap, xs, h1, h2, h3, h4, h5⟩
  · exact .inl h1
  · refine .inr ⟨a, o, cap, xs, h1, Nat.lt_of_lt_of_le h2 hz, h3, fun j x hj => ?_, h5.keepI h⟩
    obtain ⟨T, y, rfl⟩ := h5.ifaces j x hj
    exact h _ _ _ _ (h4 j _ hj)

/-- A variable that holds no term keeps terms apart. -/
theorem setCell_keepI {W : World} {O : Nat} {y : Value} {t : TypeId} (hb : Bx W O #[y] t) (hy : ∀ T z, y ≠ .iface T z) (k : Nat) (u : Value) (a o : Nat) (T : TypeId) (z : Value) (hc : W.cell? ⟨a, o, none⟩ = some (.iface T z)) :
    (W.setCell ⟨O, k, none⟩ u).cell? ⟨a, o, none⟩ = some (.iface T z) := by
  have ha : a ≠ O := by
    rintro rfl
    rw [hb.cell] at hc
    match o, hc with
    | 0, hc => simp at hc; exact hy _ _ hc
  exact (grown_set W ⟨O, k, none⟩ u).cell (a := ⟨a, o, none⟩) hc (ne_some ha)

theorem OJ.set {ls : List (Tm × Tm)} {v : Value} {O L X : Nat} {W0 : World} {o : Str} {W : World} (h : OJ ls v O L X W0 o W) (hL : L ≠ O) (hX : X ≠ O) (o' : Str) : OJ ls v O L X W0 o' (W.setCell ⟨O, 0, none⟩ (encS o')) :=
  ⟨h.l.keepI (grown_set W ⟨O, 0, none⟩ (encS o')).size (fun a k T y hc => setCell_keepI h.bo (fun _ _ => by simp [encS]) 0 _ a k T y hc), h.bl.other (p := ⟨O, 0, none⟩) hL _, h.bx.other (p := ⟨O, 0, none⟩) hX _, h.bo.set 0 _, h.gr.trans (grown_set W ⟨O, 0, none⟩ _)⟩

/-- What the search comes to. -/
def Searched (ls : List (Tm × Tm)) (v : Value) (O L X : Nat) (W0 : World) (r : Option Str) (e : Ending) (W' : World) : Prop :=
  ∃ o, e = .returned (.bool r.isSome) ∧ OJ ls v O L X W0 o W' ∧ ∀ q, r = some q → o = q

def provesS (ls : List (Tm × Tm)) (s : Str) : Bool := provesT (rkOf s) ls

theorem extS_zero (f : Str → Bool) (s : Str) : (extS f 0 s).isSome = f s := by simp only [extS]; cases f s <;> rfl

theorem extend_zero (ls : List (Tm × Tm)) (hls : ls.length ≤ 1000 ∧ ∀ l ∈ ls, l.1.size ≤ 100000 ∧ l.2.size ≤ 100000) (v : Value) (O L X : Nat) (hL : L ≠ O) (hX : X ≠ O) (W0 : World) (s o : Str) (hl : s.length = 6) (hp : SymS s) (W : World) (hJ : OJ ls v O L X W0 o W) :
    Calls Tryz.prog 86 #[encS s, .pointer (some ⟨O, 0, none⟩), .pointer (some ⟨L, 0, none⟩), .pointer (some ⟨X, 0, none⟩)] W (Searched ls v O L X W0 (extS (provesS ls) 0 s)) := by
  have hpr := sub_all hp hl
  have c0 := hJ.bo.at 0 (y := encS o) rfl
  have cf := hJ.bo.free 0
  have hlt := hJ.bo.lt
  have hj2 := hJ.set hL hX s
  have HJ2 := Lib.hid hj2
  have l0 := hj2.bl.at 0 (y := v) rfl
  have g1 : ((s.length : Int) == 6) = true := by simp [hl]
  have hnp : ∀ W, Calls Tryz.prog 87 #[encS s] W (MadeP s W) := fun W => newPrec_any s W (by omega)
  have HNp := Lib.hid hnp
  have HPr := Lib.hid hpr
  have HLs := Lib.hid hls
  have hpv : ∀ (R K : Nat) (W : World), GW (rkOf s) R K W → IsLaws Any W v ls → Calls Tryz.prog 88 #[.agg #[.map (some R), .map (some K)], v] W (Gts (rkOf s) K (provesT (rkOf s) ls) W) :=
    fun R K W hw hl => proves_any (rkOf s) R K v ls W hls.1 hls.2 hw hl
  have HPv := Lib.hid hpv
  obtain ⟨p, c, rfl⟩ := hJ.l.slice
  clear hl hp hJ hj2 hnp hpr hls hpv
  unfold encS at *
  go_enter Tryz.func86, Tryz.ntmps86
  go_wp2_with fail
  obtain ⟨W1, hW1⟩ : ∃ W1, W.setCell ⟨O, 0, none⟩ (.string ⟨s.toArray⟩) = W1 := ⟨_, rfl⟩
  rw [hW1] at HJ2 l0 ⊢
  clear hW1 c0 cf hlt
  go_region_law (first
    | (go_simp; go_at_call 87; (with_reducible refine (HNp.out W1.drew).mono ?_); rintro e w2 (⟨-, A, K, rfl, hgw, hE, hK⟩ | ⟨ho, rfl, hE⟩); rotate_left; exact absurd (HPr.out.symm.trans ho) (by decide); have hj3 := HJ2.out.ext hE.undrew; have HJ3 := Lib.hid hj3; have l1 := hj3.bl.at 0 (y := .slice p ls.length c) rfl; have HP := Lib.hid (HPv.out A K w2 hgw hj3.l); have hK2 : W1.heap.size ≤ K := hK; have HE2 := Lib.hid hE.undrew; clear hj3 hE hgw)
    | (go_simp; go_at_call 88; (with_reducible refine HP.out.mono ?_); rintro e w3 ⟨rfl, hk, hg⟩; have HE3 : Hid (Ext W1 w3) := Lib.hid (HE2.out.grown hg (some_le hK2)); clear hk hg HP))
  all_goals
    go_wp2_with fail
    go_ret
    refine ⟨s, by rw [extS_zero]; rfl, ?_, fun q hq => ?_⟩
    · exact HJ2.out.ext HE3.out
    · simp only [extS] at hq; split at hq <;> cases hq; rfl

theorem slice_sym (d : Nat) (c : UInt8) (hc : symsB[d]? = some c) : ∀ W : World, (Instr.sliceAt 9 (.string { data := #[97, 98, 99, 100, 101, 102] }) (some (.int .i64 d)) (some (.int .i64 ((d : Int) + 1))) none).run Tryz.prog W = .ok (encS [c]) W := by
  have hd : d < 6 := (List.getElem?_eq_some_iff.1 hc).1
  have : d = 0 ∨ d = 1 ∨ d = 2 ∨ d = 3 ∨ d = 4 ∨ d = 5 := by omega
  rcases this with rfl | rfl | rfl | rfl | rfl | rfl <;> (cases hc; intro W; kernel_rfl)

theorem index_one (c : UInt8) (W : World) : (Instr.index 9 (encS [c]) (.int .i64 0)).run Tryz.prog W = .ok (encB c) W := by kernel_rfl
theorem add_str (s t : Str) (h : s.length + t.length ≤ 1000000000) (W : World) : (Op.stringOp .add ⟨s.toArray⟩ ⟨t.toArray⟩).run Tryz.prog W = .ok (encS (s ++ t)) W := by
  have h1 : (⟨s.toArray⟩ : ByteArray) ++ ⟨t.toArray⟩ = ⟨(s ++ t).toArray⟩ := by ext1; simp
  refine (run_string_add_sum W ⟨s.toArray⟩ ⟨t.toArray⟩ (by simp [ByteArray.size]; omega)).trans ?_
  rw [h1]; rfl

theorem extS_step (f : Str → Bool) (n : Nat) (s : Str) {d : Nat} {c : UInt8} (hc : symsB[d]? = some c) : (symsB.take (d + 1)).findSome? (fun c => if c ∈ s then none else extS f n (s ++ [c])) =
    ((symsB.take d).findSome? (fun c => if c ∈ s then none else extS f n (s ++ [c]))).or (if c ∈ s then none else extS f n (s ++ [c])) := by
  rw [List.take_add_one, hc, List.findSome?_append]; simp

set_option maxHeartbeats 4000000 in
theorem extend_succ (ls : List (Tm × Tm)) (v : Value) (O L X : Nat) (W0 : World) (n : Nat) (s o : Str) (hl : s.length + (n + 1) = 6) (hp : SymS s) (W : World) (hJ : OJ ls v O L X W0 o W)
    (ih : ∀ (c : UInt8) (o : Str) (W : World), c ∈ symsB → c ∉ s → OJ ls v O L X W0 o W → Calls Tryz.prog 86 #[encS (s ++ [c]), .pointer (some ⟨O, 0, none⟩), .pointer (some ⟨L, 0, none⟩), .pointer (some ⟨X, 0, none⟩)] W (Searched ls v O L X W0 (extS (provesS ls) n (s ++ [c])))) :
    Calls Tryz.prog 86 #[encS s, .pointer (some ⟨O, 0, none⟩), .pointer (some ⟨L, 0, none⟩), .pointer (some ⟨X, 0, none⟩)] W (Searched ls v O L X W0 (extS (provesS ls) (n + 1) s)) := by
  have g1 : ((s.length : Int) == 6) = false := by rw [beq_eq_false_iff_ne]; omega
  have HJ := Lib.hid hJ
  have IH := Lib.hid ih
  have HP := Lib.hid hp
  have hsl : s.length ≤ 5 := by omega
  clear hJ ih hp hl
  go_enter Tryz.func86, Tryz.ntmps86
  unfold encS
  go_wp2_with fail
  go_loopg [16] 6 (fun k i wr => ∃ d o, d + k = 6 ∧ i = .int .i64 d ∧ OJ ls v O L X W0 o wr ∧ (symsB.take d).findSome? (fun c => if c ∈ s then none else extS (provesS ls) n (s ++ [c])) = none)
  case atStart => exact ⟨0, o, rfl, rfl, HJ.out, rfl⟩
  case round =>
    obtain ⟨d, o1, hd, rfl, hj, hno⟩ := hrel
    have HJr := Lib.hid hj
    have HNo := Lib.hid hno
    clear hj hno
    cases gk with
    | zero =>
      obtain rfl : d = 6 := by omega
      go_wp2_with fail
      go_ret
      have h : extS (provesS ls) (n + 1) s = none := HNo.out
      exact ⟨o1, by rw [h]; rfl, HJr.out, fun q hq => by rw [h] at hq; cases hq⟩
    | succ k =>
      obtain ⟨c, hc⟩ : ∃ c, symsB[d]? = some c := ⟨_, List.getElem?_eq_getElem (by show d < 6; omega)⟩
      have hdl : (d : Int) < 6 := by omega
      have hsl := slice_sym d c hc
      have hi1 := index_one c
      have hadd := add_str s [c] (by simp; omega)
      have HC := Lib.hid hc
      have hxc := HJr.out.bx.at 0 (y := .func (.func 86) #[] #[.pointer (some ⟨O, 0, none⟩), .pointer (some ⟨L, 0, none⟩), .pointer (some ⟨X, 0, none⟩)]) rfl
      have hlt := HJr.out.bx.lt
      obtain ⟨cap, W2, hcv, hE2, hba, hcp, hsz⟩ := conv_any s wr
      have HE2 := Lib.hid hE2
      have HBa := Lib.hid hba
      have hxc2 := hE2.cell hxc
      have HCon := Lib.hid (containsB_any s c wr.heap.size 0 cap W2 (by omega) hba hcp hsz)
      unfold encS encB at *
      clear hc hE2 hba
      by_cases hin : c ∈ s
      · have hcon := HCon.out
        rw [decide_eq_true hin] at hcon
        have HCo := Lib.hid hcon
        have HIn := Lib.hid hin
        clear hcon HCon hin
        go_wp2_with (go_at_call 89; (with_reducible refine HCo.out.mono ?_); clear HCo; rintro e w4 ⟨rfl, rfl⟩)
        go_roundg k
        case measure => omega
        case rel =>
          refine ⟨d + 1, o1, by omega, congrArg (Value.int .i64) (by omega), HJr.out.ext HE2.out, ?_⟩
          rw [extS_step _ _ _ HC.out, HNo.out, if_pos HIn.out]; rfl
      · have hcon := HCon.out
        rw [decide_eq_false hin] at hcon
        have HCo := Lib.hid hcon
        have HIn := Lib.hid hin
        have hrec := IH.out c o1 W2 (List.mem_of_getElem? HC.out) hin (HJr.out.ext HE2.out)
        clear hcon HCon hin
        cases hr : extS (provesS ls) n (s ++ [c]) with
        | none =>
          rw [hr] at hrec
          have HRec := Lib.hid hrec
          have HR := Lib.hid hr
          clear hrec hr
          go_wp2_with (first
            | (go_at_call 89; (with_reducible refine HCo.out.mono ?_); clear HCo; rintro e w4 ⟨rfl, rfl⟩)
            | (go_at_call 86; (with_reducible refine HRec.out.mono ?_); clear HRec; rintro e w4 ⟨o4, rfl, hj4, hq4⟩; have HJ4 := Lib.hid hj4; clear hj4 hq4))
          go_roundg k
          case measure => omega
          case rel =>
            refine ⟨d + 1, o4, by omega, congrArg (Value.int .i64) (by omega), HJ4.out, ?_⟩
            rw [extS_step _ _ _ HC.out, HNo.out, if_neg HIn.out, HR.out]; rfl
        | some q =>
          rw [hr] at hrec
          have HRec := Lib.hid hrec
          have HR := Lib.hid hr
          clear hrec hr
          go_wp2_with (first
            | (go_at_call 89; (with_reducible refine HCo.out.mono ?_); clear HCo; rintro e w4 ⟨rfl, rfl⟩)
            | (go_at_call 86; (with_reducible refine HRec.out.mono ?_); clear HRec; rintro e w4 ⟨o4, rfl, hj4, hq4⟩; have HJ4 := Lib.hid hj4; have HQ4 := Lib.hid hq4; clear hj4 hq4))
          go_ret
          have hext : extS (provesS ls) (n + 1) s = some q := by
            have h1 := extS_step (provesS ls) n s HC.out
            rw [HNo.out, if_neg HIn.out, HR.out] at h1
            have h2 : symsB = symsB.take (d + 1) ++ symsB.drop (d + 1) := (List.take_append_drop _ _).symm
            unfold extS
            rw [h2, List.findSome?_append, h1]; rfl
          exact ⟨o4, by rw [hext]; rfl, HJ4.out, fun q' hq' => by rw [hext] at hq'; cases hq'; exact HQ4.out q rfl⟩

theorem extend_any (ls : List (Tm × Tm)) (hls : ls.length ≤ 1000 ∧ ∀ l ∈ ls, l.1.size ≤ 100000 ∧ l.2.size ≤ 100000) (v : Value) (O L X : Nat) (hL : L ≠ O) (hX : X ≠ O) (W0 : World) : ∀ (n : Nat) (s o : Str) (W : World), s.length + n = 6 → SymS s → OJ ls v O L X W0 o W →
    Calls Tryz.prog 86 #[encS s, .pointer (some ⟨O, 0, none⟩), .pointer (some ⟨L, 0, none⟩), .pointer (some ⟨X, 0, none⟩)] W (Searched ls v O L X W0 (extS (provesS ls) n s)) := by
  intro n
  induction n with
  | zero => exact fun s o W hl hp hJ => extend_zero ls hls v O L X hL hX W0 s o hl hp W hJ
  | succ n ih => exact fun s o W hl hp hJ => extend_succ ls v O L X W0 n s o hl hp W hJ fun c o' W' hc hn hJ' => ih (s ++ [c]) o' W' (by simp; omega) (hp.snoc hc hn) hJ'

def orientR (rs : List (Str × Str)) : Except Int Str :=
  match okLaws rs with
  | none => .error 2
  | some ls => match extS (provesS ls) 6 [] with
    | some s => .ok s
    | none => .error 6
theorem orientR_no {rs : List (Str × Str)} (h : okLaws rs = none) : orientR rs = .error 2 := by simp [orientR, h]
theorem orientR_none {rs : List (Str × Str)} {ls : List (Tm × Tm)} (h : okLaws rs = some ls) (he : extS (provesS ls) 6 [] = none) : orientR rs = .error 6 := by simp [orientR, h, he]
theorem orientR_some {rs : List (Str × Str)} {ls : List (Tm × Tm)} {s : Str} (h : okLaws rs = some ls) (he : extS (provesS ls) 6 [] = some s) : orientR rs = .ok s := by simp [orientR, h, he]

end Go.Proofs.YtholmlkjcobkdaaGreat
