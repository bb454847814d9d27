/- Greater, exported. -/
import Derived.Test.YtholmlkjcobkdaaGreatExp2
namespace Go.Proofs.YtholmlkjcobkdaaGreat
set_option linter.all false
set_option linter.unusedSimpArgs false
set_option linter.unusedVariables false
open Go.RowKit
set_option maxRecDepth 100000

def greaterR (p s t : Str) : Except Int Bool :=
  if okPrec p = true then match bothT s t with
    | some q => .ok (q.1.gt (rkOf p) q.2)
    | none => .error 4
  else .error 2

theorem greaterR_bad {p s t : Str} (h : okPrec p = false) : greaterR p s t = .error 2 := by simp [greaterR, h]
theorem greaterR_none {p s t : Str} (h : okPrec p = true) (hb : bothT s t = none) : greaterR p s t = .error 4 := by simp [greaterR, h, hb]
theorem greaterR_ok {p s t : Str} {a b : Tm} (h : okPrec p = true) (hs : Tm.parse s = some a) (ht : Tm.parse t = some b) : greaterR p s t = .ok (a.gt (rkOf p) b) := by simp [greaterR, h, bothT_s hs ht]

set_option maxHeartbeats 2000000 in
theorem greater1_any (p s t : Str) (P S T O : Nat) (W : World) (hp : p.length ≤ 1000000000) (hP : Bx W P #[encS p] 9) (hS : Bx W S #[encS s] 9) (hT : Bx W T #[encS t] 9) (hO : Bx W O #[.bool false] 4) :
    Calls Tryz.prog 92 #[.pointer (some ⟨P, 0, none⟩), .pointer (some ⟨S, 0, none⟩), .pointer (some ⟨T, 0, none⟩), .pointer (some ⟨O, 0, none⟩)] W (Ran 4 (greaterR p s t) O (fun _ v b => v = .bool b) W) := by
  have c0 := hP.at 0 (y := encS p) rfl
  have HS := Lib.hid hS
  have HT := Lib.hid hT
  have HO := Lib.hid hO
  have HN := Lib.hid (newPrec_any p W hp)
  have hrd : ∀ (l : Str) W, Calls Tryz.prog 69 #[encS l] W (ReadsStr W (Tm.parse l)) := fun l W => read_any l W
  have HRd := Lib.hid hrd
  clear hrd
  clear hP hS hT hO hp
  go_enter Tryz.func92, Tryz.ntmps92
  go_wp2_with ((with_reducible refine HN.out.mono ?_); clear HN; rintro e w0 (⟨ho, A, K, rfl, hgw, hE, hK⟩ | ⟨ho, rfl, hE⟩); rotate_left; exact ⟨rfl, .inr ⟨2, greaterR_bad ho, rfl, hE⟩⟩)
  have hEa := Ext.new w0 (.cells #[.map (some A), .map (some K)] 120)
  have hbp := Bx.new w0 #[.map (some A), .map (some K)] 120
  obtain ⟨W1, hW1⟩ : ∃ W1, w0.alloc (.cells #[.map (some A), .map (some K)] 120) = W1 := ⟨_, rfl⟩
  rw [hW1] at hEa hbp ⊢
  generalize w0.heap.size = B at hbp ⊢
  have hE1 : Ext W W1 := hE.trans hEa
  have HE1 := Lib.hid hE1
  have HBp := Lib.hid hbp
  have HGw := Lib.hid (hgw.ext hEa)
  have HOk := Lib.hid ho
  have s1 := (HS.out.ext hE1).at 0 (y := encS s) rfl
  have t1 := (HT.out.ext hE1).at 0 (y := encS t) rfl
  clear hW1 hE hEa hE1 hgw hbp ho c0
  go_wp2_with fail
  go_region_law (first
    | (go_simp; go_at_call 69; (with_reducible refine (HRd.out s W1.drew).mono ?_); rintro e w1 (⟨a, T1, x, ho, rfl, hE, ht⟩ | ⟨ho, rfl, hE⟩); rotate_left; exact ⟨rfl, .inr ⟨4, greaterR_none HOk.out (bothT_l ho), rfl, HE1.out.trans hE.undrew⟩⟩; have HE2 := Lib.hid hE.undrew; have HA := Lib.hid ho; have HX := Lib.hid ht; have s2 := (HS.out.ext (HE1.out.trans HE2.out)).at 0 (y := encS s) rfl; have t2 := (HT.out.ext (HE1.out.trans HE2.out)).at 0 (y := encS t) rfl; clear hE ho ht)
    | (go_simp; go_at_call 69; (with_reducible refine (HRd.out t W1.drew).mono ?_); rintro e w1 (⟨b, T2, y, ho, rfl, hE, ht⟩ | ⟨ho, rfl, hE⟩); rotate_left; exact ⟨rfl, .inr ⟨4, greaterR_none HOk.out (bothT_r ho), rfl, HE1.out.trans hE.undrew⟩⟩; have HE2 := Lib.hid hE.undrew; have HB := Lib.hid ho; have HY := Lib.hid ht; have s2 := (HS.out.ext (HE1.out.trans HE2.out)).at 0 (y := encS s) rfl; have t2 := (HT.out.ext (HE1.out.trans HE2.out)).at 0 (y := encS t) rfl; clear hE ho ht)
    | (go_simp; go_at_call 69; (with_reducible refine (HRd.out s w1).mono ?_); rintro e w2 (⟨a, T1, x, ho, rfl, hE, ht⟩ | ⟨ho, rfl, hE⟩); rotate_left; exact ⟨rfl, .inr ⟨4, greaterR_none HOk.out (bothT_l ho), rfl, (HE1.out.trans HE2.out).trans hE⟩⟩; have HE3 := Lib.hid hE; have HA := Lib.hid ho; have HX := Lib.hid ht; have HYY := Lib.hid (HY.out.ext hE); clear hE ho ht)
    | (go_simp; go_at_call 69; (with_reducible refine (HRd.out t w1).mono ?_); rintro e w2 (⟨b, T2, y, ho, rfl, hE, ht⟩ | ⟨ho, rfl, hE⟩); rotate_left; exact ⟨rfl, .inr ⟨4, greaterR_none HOk.out (bothT_r ho), rfl, (HE1.out.trans HE2.out).trans hE⟩⟩; have HE3 := Lib.hid hE; have HB := Lib.hid ho; have HYY := Lib.hid ht; have HXX := HX; clear HX; have HX := Lib.hid (HXX.out.ext hE); clear HXX hE ho ht))
  all_goals
    have hE4 := HE2.out.trans HE3.out
    have HE4 := Lib.hid hE4
    have HG := Lib.hid (greater_any (rkOf p) A K a b _ _ w2 (Nat.le_trans ((Tm.parse_iff _ _).1 HA.out).2 (by decide)) (Nat.le_trans ((Tm.parse_iff _ _).1 HB.out).2 (by decide)) (HGw.out.ext hE4) HX.out HYY.out)
    have p0 := (HBp.out.ext hE4).at 0 (y := .map (some A)) rfl
    have p1 := (HBp.out.ext hE4).at 1 (y := .map (some K)) rfl
    clear hE4 s1 t1 s2 t2
    go_wp2_with ((with_reducible refine HG.out.mono ?_); clear HG; rintro e w3 ⟨rfl, hk, hg⟩; have hE5 : Ext W w3 := (HE1.out.trans HE4.out).grown hg (some_le (Nat.le_trans (Nat.le_refl _) hK)); have o0 := (HO.out.ext hE5).at 0 (y := .bool false) rfl; have of0 := (HO.out.ext hE5).free 0; have HE5 := Lib.hid hE5; clear hk hg hE5)
    go_end0
    exact .inl ⟨_, _, greaterR_ok HOk.out HA.out HB.out, rfl, (HO.out.ext HE5.out).set 0 _, rfl, (HE5.out.grows' _).trans (grown_set _ ⟨O, 0, none⟩ _)⟩

/-- What an exported function hands back that answers by one value and an error. -/
def OutV {α : Type} (enc : α → Value) (zero : Value) (r : Except Int α) (w : World) (e : Ending) (w' : World) : Prop :=
  ((∃ a, r = .ok a ∧ e = .returned (.tuple #[enc a, .int .i64 0])) ∨ (∃ n, r = .error n ∧ e = .returned (.tuple #[zero, .int .i64 n]))) ∧ Ext w w'

theorem Greater_any (p s t : Str) (w : World) (hp : p.length ≤ 1000000000) : Calls Tryz.prog 43 #[encS p, encS s, encS t] w (OutV Value.bool (.bool false) (greaterR p s t) w) := by
  have hmf : ∀ (fn : Fn) (first cap : Array Value) (w : World), (Instr.makeFunc fn first cap).run Tryz.prog w = .ok (.func fn first cap) w := fun _ _ _ _ => rfl
  unfold encS
  go_enter Tryz.func43, Tryz.ntmps43
  go_wp2_with fail
  obtain ⟨W0, hW0, hb0, hb1, hb2, hb3, hE, hsz⟩ := boxes4 w #[.string ⟨p.toArray⟩] 9 #[.string ⟨s.toArray⟩] 9 #[.string ⟨t.toArray⟩] 9 #[.bool false] 4
  rw [hW0]
  have hf := greater1_any p s t w.heap.size (w.heap.size + 1) (w.heap.size + 1 + 1) (w.heap.size + 1 + 1 + 1) _ hp (hb0.alloc (.cells #[.int .i64 0] 26)) (hb1.alloc _) (hb2.alloc _) (hb3.alloc _)
  refine (guard_ran 4 (greaterR p s t) (w.heap.size + 1 + 1 + 1) (fun _ v b => v = .bool b) 92 _ (fun _ _ => by kernel_rfl) W0 (by omega) (by simpa using hf) (fun _ _ _ _ h _ => h)).mono ?_
  rintro e w' (⟨b, v, ho, rfl, hb, rfl, hg⟩ | ⟨n, ho, rfl, hx⟩)
  · have k0 := hb.at 0 (y := .bool b) rfl
    have kf := hb.free 0
    have k1 := (hb.set 0 (.bool b)).at 0 (y := .bool b) rfl
    have HO := Lib.hid ho
    have HE := Lib.hid (hE.over hg (by omega))
    clear hW0 hb0 hb1 hb2 hb3 hE hf hb hg ho
    go_wp2
    refine bodyPost_ret (v := .tuple #[.bool b, .int .i64 0]) (by simp [results, Tryz.results43, go_sem, k1]) rfl ?_
    exact ⟨.inl ⟨b, HO.out, rfl⟩, HE.out.grown (grown_set _ ⟨w.heap.size + 1 + 1 + 1, 0, none⟩ _) (some_le (show w.heap.size ≤ w.heap.size + 1 + 1 + 1 by omega))⟩
  · have hb := hb3.ext hx
    have k0 := hb.at 0 (y := .bool false) rfl
    have kf := hb.free 0
    have k1 := (hb.set 0 (.bool false)).at 0 (y := .bool false) rfl
    have HO := Lib.hid ho
    have HE := Lib.hid (hE.trans hx)
    clear hW0 hb0 hb1 hb2 hb3 hE hf hb hx ho
    go_wp2
    refine bodyPost_ret (v := .tuple #[.bool false, .int .i64 n]) (by simp [results, Tryz.results43, go_sem, k1]) rfl ?_
    exact ⟨.inr ⟨n, HO.out, rfl⟩, HE.out.grown (grown_set _ ⟨w.heap.size + 1 + 1 + 1, 0, none⟩ _) (some_le (show w.heap.size ≤ w.heap.size + 1 + 1 + 1 by omega))⟩

end Go.Proofs.YtholmlkjcobkdaaGreat
