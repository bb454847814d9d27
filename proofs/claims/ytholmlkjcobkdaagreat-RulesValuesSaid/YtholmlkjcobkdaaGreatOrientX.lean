/- Orient, exported. -/
import Derived.Test.YtholmlkjcobkdaaGreatOrient
namespace Go.Proofs.YtholmlkjcobkdaaGreat
set_option linter.all false
set_option linter.unusedSimpArgs false
set_option linter.unusedVariables false
open Go.RowKit
set_option maxRecDepth 100000

/-- What a closure comes to that may fill the variable O on its way. -/
def RanG {α : Type} (T : TypeId) (r : Except Int α) (O : Nat) (out : α → Value) (Q : Value → Prop) (W : World) (e : Ending) (W' : World) : Prop :=
  W.grownBy W' (some O) ∧ ∃ v, Q v ∧ Bx W' O #[v] T ∧ ((∃ a, r = .ok a ∧ e = .returned (.tuple #[]) ∧ v = out a) ∨ (∃ n, r = .error n ∧ e = .panicked (tr n)))

def GRanG {α : Type} (T : TypeId) (r : Except Int α) (O : Nat) (out : α → Value) (Q : Value → Prop) (W : World) (e : Ending) (W' : World) : Prop :=
  e = .returned (.int .i64 (errOf r)) ∧ W.grownBy W' (some O) ∧ ∃ v, Q v ∧ Bx W' O #[v] T ∧ ∀ a, r = .ok a → v = out a

theorem guard_ranG {α : Type} (T : TypeId) (r : Except Int α) (O : Nat) (out : α → Value) (Q : Value → Prop) (g : FuncId) (caps : Array Value) (hg : ∀ xs W, (callFunc g xs).run Tryz.prog W = .ok (.enter g xs) W) (W : World) (hO : O < W.heap.size)
    (hf : Calls Tryz.prog g caps (W.alloc (.cells #[.int .i64 0] 26)) (RanG T r O out Q (W.alloc (.cells #[.int .i64 0] 26)))) :
    Calls Tryz.prog 65 #[.func (.func g) #[] caps] W (GRanG T r O out Q W) := by
  have hg0 := Bx.new W #[.int .i64 0] 26
  refine (guard_any g caps hg W _ hf ?_).mono ?_
  · intro e w1 hr
    have hb : Bx w1 W.heap.size #[.int .i64 0] 26 := hg0.grown hr.1 (ne_some (by omega))
    refine ⟨hb.lt, hb.cell 0, hb.free 0, ?_⟩
    obtain ⟨-, v, -, -, ⟨a, _, h, _⟩ | ⟨n, _, h⟩⟩ := hr
    · exact .inl h
    · exact .inr ⟨n, h⟩
  · rintro e w' ⟨e1, w1, n, ⟨hg1, v, hq, hb, hr⟩, hgr, rfl, hc⟩
    have hgg : W.grownBy w' (some O) := by
      refine ⟨hgr.os.trans hg1.os, hgr.tape.trans hg1.tape, hgr.output.trans hg1.output, ?_, fun k hk hn => ?_⟩
      · have h1 := hg1.size
        have h2 := hgr.size
        simp at h1
        omega
      · have h1 := hg1.block k (by simp; omega) hn
        have h2 := hgr.block k (by have := hg1.size; simp at this; omega) (ne_some (by omega))
        rw [h2, h1]
        exact Below.heap_alloc _ _ _ hk
    have hbb := hb.grown hgr (ne_some (by omega))
    rcases hr with ⟨a, rfl, rfl, hv⟩ | ⟨k, rfl, rfl⟩
    · obtain rfl : n = 0 := by
        rcases hc with ⟨_, h⟩ | h
        · exact h
        · cases h
      exact ⟨rfl, hgg, v, hq, hbb, fun a' h => by cases h; exact hv⟩
    · obtain rfl : n = k := by
        rcases hc with ⟨h, _⟩ | h
        · cases h
        · exact trn_inj h
      exact ⟨rfl, hgg, v, hq, hbb, fun a' h => by cases h⟩

def IsStr (v : Value) : Prop := ∃ s : Str, v = encS s

set_option maxHeartbeats 2000000 in
theorem orient1_any (rs : List (Str × Str)) (R O : Nat) (v : Value) (W : World) (hR : Bx W R #[v] 35) (hr : IsRules W v rs) (hO : Bx W O #[encS []] 9) :
    Calls Tryz.prog 85 #[.pointer (some ⟨R, 0, none⟩), .pointer (some ⟨O, 0, none⟩)] W (RanG 9 (orientR rs) O encS IsStr W) := by
  have hL := newLaws_any rs v W hr
  obtain ⟨p, c, rfl⟩ := hr.slice
  have c0 := hR.at 0 (y := .slice p rs.length c) rfl
  have HL := Lib.hid hL
  have HO := Lib.hid hO
  have hmf : ∀ (fn : Fn) (first cap : Array Value) (w : World), (Instr.makeFunc fn first cap).run Tryz.prog w = .ok (.func fn first cap) w := fun _ _ _ _ => rfl
  have hOW := hO.lt
  clear hL hr hR hO
  go_enter Tryz.func85, Tryz.ntmps85
  go_upto_region 1 with ((with_reducible refine HL.out.mono ?_); clear HL; rintro e w1 (⟨ls, v1, ho, rfl, hE, hls⟩ | ⟨ho, rfl, hE⟩); rotate_left; exact ⟨rfl, hE.grows' _, encS [], ⟨[], rfl⟩, HO.out.ext hE, .inr ⟨2, orientR_no ho, rfl⟩⟩; obtain ⟨p1, c1, rfl⟩ := hls.slice; have HLs := Lib.hid hls; have HE := Lib.hid hE; have HO1 := Lib.hid ho; clear ho hE hls)
  have hn1 := HE.out.size
  obtain ⟨W1, hW1, hbl, hbx, hE1⟩ : ∃ W1, (w1.alloc (.cells #[.slice p1 ls.length c1] 109)).alloc (.cells #[.func (.func 86) #[] #[.pointer (some ⟨O, 0, none⟩), .pointer (some ⟨w1.heap.size, 0, none⟩), .pointer (some ⟨w1.heap.size + 1, 0, none⟩)]] 31) = W1 ∧
      Bx W1 w1.heap.size #[.slice p1 ls.length c1] 109 ∧ Bx W1 (w1.heap.size + 1) #[.func (.func 86) #[] #[.pointer (some ⟨O, 0, none⟩), .pointer (some ⟨w1.heap.size, 0, none⟩), .pointer (some ⟨w1.heap.size + 1, 0, none⟩)]] 31 ∧ Ext w1 W1 := by
    refine ⟨_, rfl, (Bx.new _ _ _).alloc _, ?_, (Ext.new _ _).alloc _⟩
    have h := Bx.new (w1.alloc (.cells #[.slice p1 ls.length c1] 109)) #[.func (.func 86) #[] #[.pointer (some ⟨O, 0, none⟩), .pointer (some ⟨w1.heap.size, 0, none⟩), .pointer (some ⟨w1.heap.size + 1, 0, none⟩)]] 31
    rwa [World.size_alloc] at h
  have hj : OJ ls (.slice p1 ls.length c1) O w1.heap.size (w1.heap.size + 1) W [] W1 :=
    ⟨(HLs.out.ext hE1).keep (Nat.le_refl _) (fun _ _ _ h => h) (fun _ _ => trivial), hbl, hbx, HO.out.ext (HE.out.trans hE1), (HE.out.trans hE1).grows' _⟩
  have HX := Lib.hid (extend_any ls (okLaws_small HO1.out) (.slice p1 ls.length c1) O w1.heap.size (w1.heap.size + 1) (by omega) (by omega) W 6 [] [] W1 rfl ⟨List.nodup_nil, fun c hc => by cases hc⟩ hj)
  have x0 := hbx.at 0 (y := .func (.func 86) #[] #[.pointer (some ⟨O, 0, none⟩), .pointer (some ⟨w1.heap.size, 0, none⟩), .pointer (some ⟨w1.heap.size + 1, 0, none⟩)]) rfl
  clear hbl hbx hE1 hj
  unfold encS at HX
  cases hx : extS (provesS ls) 6 [] with
  | none =>
    rw [hx] at HX
    have HXx := Lib.hid hx
    clear hx
    go_wp2_with ((with_reducible refine HX.out.mono ?_); clear HX; rintro e w4 ⟨o4, rfl, hj4, -⟩)
    refine (demand_no _ _).mono ?_
    rintro e w5 ⟨rfl, rfl⟩
    exact ⟨rfl, hj4.gr, encS o4, ⟨o4, rfl⟩, hj4.bo, .inr ⟨6, orientR_none HO1.out HXx.out, rfl⟩⟩
  | some q =>
    rw [hx] at HX
    have HXx := Lib.hid hx
    clear hx
    go_wp2_with ((with_reducible refine HX.out.mono ?_); clear HX; rintro e w4 ⟨o4, rfl, hj4, hq4⟩; have HJ4 := Lib.hid hj4; have HQ4 := Lib.hid (hq4 q rfl); clear hj4 hq4)
    refine (demand_yes _ _).mono ?_
    rintro e w5 ⟨rfl, rfl⟩
    go_wp2
    go_end0
    exact ⟨HJ4.out.gr, encS o4, ⟨o4, rfl⟩, HJ4.out.bo, .inl ⟨o4, by rw [HQ4.out]; exact orientR_some HO1.out HXx.out, rfl, rfl⟩⟩

theorem Orient_any (rs : List (Str × Str)) (v : Value) (w : World) (hr : IsRules w v rs) : Calls Tryz.prog 36 #[v] w (OutV encS (encS []) (orientR rs) w) := by
  obtain ⟨p, c, rfl⟩ := hr.slice
  have hmf : ∀ (fn : Fn) (first cap : Array Value) (w : World), (Instr.makeFunc fn first cap).run Tryz.prog w = .ok (.func fn first cap) w := fun _ _ _ _ => rfl
  have HR := Lib.hid hr
  clear hr
  go_enter Tryz.func36, Tryz.ntmps36
  go_wp2_with fail
  obtain ⟨W0, hW0, hb0, hb1, hE, hsz⟩ := boxes2 w #[.slice p rs.length c] 35 #[.string ⟨#[]⟩] 9
  rw [hW0]
  have hf := orient1_any rs w.heap.size (w.heap.size + 1) (.slice p rs.length c) _ (hb0.alloc (.cells #[.int .i64 0] 26)) (HR.out.ext (hE.alloc _)) (hb1.alloc _)
  refine (guard_ranG 9 (orientR rs) (w.heap.size + 1) encS IsStr 85 _ (fun _ _ => by kernel_rfl) W0 (by omega) (by simpa using hf)).mono ?_
  rintro e w' ⟨rfl, hg, v, ⟨s, rfl⟩, hb, hq⟩
  have k0 := hb.at 0 (y := encS s) rfl
  have kf := hb.free 0
  have hlt := hb.lt
  have HE := Lib.hid (hE.over hg (by omega))
  have HB := Lib.hid hb
  have HQ := Lib.hid hq
  clear hW0 hb0 hb1 hE hf hb hg hq
  unfold encS at k0
  cases ho : orientR rs with
  | ok a =>
    have hs := HQ.out a ho
    have k1 := (HB.out.set 0 (.string ⟨s.toArray⟩)).at 0 (y := .string ⟨s.toArray⟩) rfl
    have HS := Lib.hid hs
    have HOk := Lib.hid ho
    clear ho hs
    unfold errOf
    go_wp2
    refine bodyPost_ret (v := .tuple #[.string ⟨s.toArray⟩, .int .i64 0]) (by simp [results, Tryz.results36, go_sem, k1]) rfl ?_
    exact ⟨.inl ⟨a, HOk.out, by rw [← HS.out]; rfl⟩, HE.out.grown (grown_set _ ⟨w.heap.size + 1, 0, none⟩ _) (some_le (show w.heap.size ≤ w.heap.size + 1 by omega))⟩
  | error n =>
    have HOk := Lib.hid ho
    have hn : n ≠ 0 := by
      intro h
      subst h
      unfold orientR at ho
      split at ho
      · cases ho
      · split at ho <;> cases ho
    have hn' : (n != 0) = true := by simpa using hn
    have k1 := (HB.out.set 0 (.string ⟨#[]⟩)).at 0 (y := .string ⟨#[]⟩) rfl
    clear ho hn
    unfold errOf
    go_wp2
    refine bodyPost_ret (v := .tuple #[.string ⟨#[]⟩, .int .i64 n]) (by simp [results, Tryz.results36, go_sem, k1]) rfl ?_
    exact ⟨.inr ⟨n, HOk.out, rfl⟩, HE.out.grown (grown_set _ ⟨w.heap.size + 1, 0, none⟩ _) (some_le (show w.heap.size ≤ w.heap.size + 1 by omega))⟩

end Go.Proofs.YtholmlkjcobkdaaGreat
