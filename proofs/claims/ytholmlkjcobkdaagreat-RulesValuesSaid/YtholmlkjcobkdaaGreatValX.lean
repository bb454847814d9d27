/- Value and Size, exported. -/
import Derived.Test.YtholmlkjcobkdaaGreatOfW
namespace Go.Proofs.YtholmlkjcobkdaaGreat
set_option linter.all false
set_option linter.unusedSimpArgs false
set_option linter.unusedVariables false
open Go.RowKit
set_option maxRecDepth 100000

/-- What a closure comes to that fills the cells of the variable O, or reports an error. -/
def RanA {α : Type} (T : TypeId) (r : Except Int α) (O : Nat) (out : α → Array Value) (W : World) (e : Ending) (W' : World) : Prop :=
  (∃ a, r = .ok a ∧ e = .returned (.tuple #[]) ∧ Bx W' O (out a) T ∧ W.grownBy W' (some O)) ∨ (∃ n, r = .error n ∧ e = .panicked (tr n) ∧ Ext W W')

def GRanA {α : Type} (T : TypeId) (r : Except Int α) (O : Nat) (out : α → Array Value) (W : World) (e : Ending) (W' : World) : Prop :=
  (∃ a, r = .ok a ∧ e = .returned (.int .i64 0) ∧ Bx W' O (out a) T ∧ W.grownBy W' (some O)) ∨ (∃ n, r = .error n ∧ e = .returned (.int .i64 n) ∧ Ext W W')

theorem guard_ranA {α : Type} (T : TypeId) (r : Except Int α) (O : Nat) (out : α → Array Value) (g : FuncId) (caps : Array Value) (hg : ∀ xs W, (callFunc g xs).run Tryz.prog W = .ok (.enter g xs) W) (W : World) (hO : O < W.heap.size)
    (hf : Calls Tryz.prog g caps (W.alloc (.cells #[.int .i64 0] 26)) (RanA T r O out (W.alloc (.cells #[.int .i64 0] 26)))) :
    Calls Tryz.prog 65 #[.func (.func g) #[] caps] W (GRanA T r O out W) := by
  have hg0 := Bx.new W #[.int .i64 0] 26
  refine (guard_any g caps hg W _ hf ?_).mono ?_
  · intro e w1 hr
    have hb : Bx w1 W.heap.size #[.int .i64 0] 26 := by
      rcases hr with ⟨a, _, _, _, hgr⟩ | ⟨n, _, _, hx⟩
      · exact hg0.grown hgr (ne_some (by omega))
      · exact hg0.ext hx
    refine ⟨hb.lt, hb.cell 0, hb.free 0, ?_⟩
    rcases hr with ⟨a, _, h, _⟩ | ⟨n, _, h, _⟩
    · exact .inl h
    · exact .inr ⟨n, h⟩
  · rintro e w' ⟨e1, w1, n, hr, hgr, rfl, hc⟩
    rcases hr with ⟨a, ho, rfl, hb, hg1⟩ | ⟨k, ho, rfl, hx⟩
    · obtain rfl : n = 0 := by
        rcases hc with ⟨_, h⟩ | h
        · exact h
        · cases h
      refine .inl ⟨a, ho, rfl, hb.grown hgr (ne_some (by omega)), ⟨hgr.os.trans hg1.os, hgr.tape.trans hg1.tape, hgr.output.trans hg1.output, ?_, fun k hk hn => ?_⟩⟩
      · have h1 := hg1.size
        have h2 := hgr.size
        simp at h1
        omega
      · have h1 := hg1.block k (by simp; omega) hn
        have h2 := hgr.block k (by have := hg1.size; simp at this; omega) (ne_some (by omega))
        rw [h2, h1]
        exact Below.heap_alloc _ _ _ hk
    · obtain rfl : n = k := by
        rcases hc with ⟨h, _⟩ | h
        · cases h
        · exact trn_inj h
      exact .inr ⟨n, ho, rfl, ((Ext.new W _).trans hx).grown hgr (some_le (Nat.le_refl _))⟩

def zero4 : Array Value := #[.int .i64 0, .int .i64 0, .int .i64 0, .int .i64 0]

def valueR (rd : List (List Int)) (s : Str) : Except Int (Nat → Int) :=
  if okRead rd = true then match Tm.parse s with
    | none => .error 4
    | some t => if t.size ≤ 12 then .ok (t.val rd) else .error 5
  else .error 2

theorem valueR_bad {rd : List (List Int)} {s : Str} (h : okRead rd = false) : valueR rd s = .error 2 := by simp [valueR, h]
theorem valueR_none {rd : List (List Int)} {s : Str} (h : okRead rd = true) (hs : Tm.parse s = none) : valueR rd s = .error 4 := by simp [valueR, h, hs]
theorem valueR_big {rd : List (List Int)} {s : Str} {t : Tm} (h : okRead rd = true) (hs : Tm.parse s = some t) (hz : ¬ t.size ≤ 12) : valueR rd s = .error 5 := by simp [valueR, h, hs, hz]
theorem valueR_ok {rd : List (List Int)} {s : Str} {t : Tm} (h : okRead rd = true) (hs : Tm.parse s = some t) (hz : t.size ≤ 12) : valueR rd s = .ok (t.val rd) := by simp [valueR, h, hs, hz]

theorem IsRd.slice {w : World} {v : Value} {rd : List (List Int)} (h : IsRd w v rd) : ∃ p c, v = .slice p rd.length c := by
  obtain ⟨p, c, h, -⟩ := h; exact ⟨p, c, h⟩

set_option maxHeartbeats 2000000 in
theorem value1_any (rd : List (List Int)) (s : Str) (L S O : Nat) (v : Value) (W : World) (hn : rd.length ≤ 1000) (hm : ∀ r ∈ rd, r.length ≤ 1000) (hr : IsRd W v rd) (hL : Bx W L #[v] 22) (hS : Bx W S #[encS s] 9) (hO : Bx W O zero4 25) :
    Calls Tryz.prog 66 #[.pointer (some ⟨L, 0, none⟩), .pointer (some ⟨S, 0, none⟩), .pointer (some ⟨O, 0, none⟩)] W (RanA 25 (valueR rd s) O vals W) := by
  have hi := isReading_any rd v W hn hm hr
  have HRd := Lib.hid hr
  obtain ⟨p, c, rfl⟩ := hr.slice
  have l0 := hL.at 0 (y := .slice p rd.length c) rfl
  have s0 := hS.at 0 (y := encS s) rfl
  have HL := Lib.hid hL
  have HO := Lib.hid hO
  have HI := Lib.hid hi
  have hrd : ∀ (l : Str) W, Calls Tryz.prog 69 #[encS l] W (ReadsStr W (Tm.parse l)) := fun l W => read_any l W
  have HR := Lib.hid hrd
  clear hr hL hS hO hi hrd
  go_enter Tryz.func66, Tryz.ntmps66
  go_wp2_with ((with_reducible refine HI.out.mono ?_); clear HI; rintro e w1 ⟨rfl, rfl⟩)
  cases hok : okRead rd with
  | false =>
    refine (demand_no _ _).mono ?_
    rintro e w1 ⟨rfl, rfl⟩
    exact ⟨rfl, .inr ⟨2, valueR_bad hok, rfl, Ext.refl _⟩⟩
  | true =>
    have HOk := Lib.hid hok
    clear hok
    refine (demand_yes _ _).mono ?_
    rintro e w1 ⟨rfl, rfl⟩
    go_wp2_with (first
      | ((with_reducible refine (HR.out s _).mono ?_); clear HR; rintro e w2 (⟨t, T, y, ho, rfl, hE, ht⟩ | ⟨ho, rfl, hE⟩); rotate_left; exact ⟨rfl, .inr ⟨4, valueR_none HOk.out ho, rfl, hE⟩⟩; have HT := Lib.hid ht; have HE := Lib.hid hE; have HP := Lib.hid ho; have HSz := Lib.hid (size_inv t _ w2 (Nat.le_trans ((Tm.parse_iff _ _).1 ho).2 (by decide)) ht); have hts := ((Tm.parse_iff _ _).1 ho).2; clear ho hE ht)
      | (refine wpList_invoke0 (.iface T y) rfl ?_; intro K hK; refine (HSz.out _ (Ext.refl _)).mono ?_; clear HSz; rintro e w4 ⟨rfl, hE4⟩; have HE4 := Lib.hid (HE.out.trans hE4); have HT4 := Lib.hid (HT.out.ext hE4); clear hE4))
    by_cases hz : t.size ≤ 12
    · rw [decide_eq_true (show (t.size : Int) ≤ 12 by omega)]
      refine (demand_yes _ _).mono ?_
      rintro e w5 ⟨rfl, rfl⟩
      have HOf := Lib.hid (of_all rd HOk.out (.slice p rd.length c) t (.iface T y) w4 hz (HRd.out.ext HE4.out) (HT4.out.mono fun _ _ => trivial))
      have HZ := Lib.hid hz
      have l1 := HE4.out.cell l0
      clear hz hts l0 s0
      go_wp2_with ((with_reducible refine HOf.out.mono ?_); clear HOf; rintro e w6 ⟨rfl, hE6⟩; have HE6 := Lib.hid (HE4.out.trans hE6); have hb := HO.out.ext HE6.out; have b0 := hb.at 0 (y := .int .i64 0) rfl; have b1 := hb.at 1 (y := .int .i64 0) rfl; have b2 := hb.at 2 (y := .int .i64 0) rfl; have b3 := hb.at 3 (y := .int .i64 0) rfl; have bf := hb.free; have hlt := hb.lt; have HB := Lib.hid hb; unfold vals; clear hE6 hb)
      go_end0
      refine .inl ⟨_, valueR_ok HOk.out HP.out HZ.out, rfl, (((HB.out.set 0 _).set 1 _).set 2 _).set 3 _, (HE6.out.grows' _).trans ?_⟩
      exact (((grown_set w6 ⟨O, 0, none⟩ _).trans (grown_set _ ⟨O, 1, none⟩ _)).trans (grown_set _ ⟨O, 2, none⟩ _)).trans (grown_set _ ⟨O, 3, none⟩ _)
    · rw [decide_eq_false (show ¬ (t.size : Int) ≤ 12 by omega)]
      refine (demand_no _ _).mono ?_
      rintro e w5 ⟨rfl, rfl⟩
      exact ⟨rfl, .inr ⟨5, valueR_big HOk.out HP.out hz, rfl, HE4.out⟩⟩

theorem Value_any (rd : List (List Int)) (s : Str) (v : Value) (w : World) (hn : rd.length ≤ 1000) (hm : ∀ r ∈ rd, r.length ≤ 1000) (hr : IsRd w v rd) :
    Calls Tryz.prog 22 #[v, encS s] w (OutV (fun f => .agg (vals f)) (.agg zero4) (valueR rd s) w) := by
  have HR := Lib.hid hr
  obtain ⟨p, c, rfl⟩ := hr.slice
  have hmf : ∀ (fn : Fn) (first cap : Array Value) (w : World), (Instr.makeFunc fn first cap).run Tryz.prog w = .ok (.func fn first cap) w := fun _ _ _ _ => rfl
  clear hr
  unfold encS
  go_enter Tryz.func22, Tryz.ntmps22
  go_wp2_with fail
  obtain ⟨W0, hW0, hb0, hb1, hb2, hE, hsz⟩ := boxes3 w #[.slice p rd.length c] 22 #[.string ⟨s.toArray⟩] 9 #[.int .i64 0, .int .i64 0, .int .i64 0, .int .i64 0] 25
  rw [hW0]
  have hf := value1_any rd s w.heap.size (w.heap.size + 1) (w.heap.size + 1 + 1) (.slice p rd.length c) _ hn hm (HR.out.ext (hE.alloc (.cells #[.int .i64 0] 26))) (hb0.alloc _) (hb1.alloc _) (hb2.alloc _)
  refine (guard_ranA 25 (valueR rd s) (w.heap.size + 1 + 1) vals 66 _ (fun _ _ => by kernel_rfl) W0 (by omega) (by simpa using hf)).mono ?_
  rintro e w' (⟨f, ho, rfl, hb, hg⟩ | ⟨n, ho, rfl, hx⟩)
  · have k0 := hb.at 0 (y := .int .i64 (f 0)) rfl
    have k1 := hb.at 1 (y := .int .i64 (f 1)) rfl
    have k2 := hb.at 2 (y := .int .i64 (f 2)) rfl
    have k3 := hb.at 3 (y := .int .i64 (f 3)) rfl
    have kf := hb.free
    have hb4 := (((hb.set 0 (.int .i64 (f 0))).set 1 (.int .i64 (f 1))).set 2 (.int .i64 (f 2))).set 3 (.int .i64 (f 3))
    have q0 := hb4.at 0 (y := .int .i64 (f 0)) rfl
    have q1 := hb4.at 1 (y := .int .i64 (f 1)) rfl
    have q2 := hb4.at 2 (y := .int .i64 (f 2)) rfl
    have q3 := hb4.at 3 (y := .int .i64 (f 3)) rfl
    have hlt := hb.lt
    have HO := Lib.hid ho
    have HE := Lib.hid (hE.over hg (by omega))
    clear hW0 hb0 hb1 hb2 hE hf hb hg ho hb4
    go_wp2
    refine bodyPost_ret (v := .tuple #[.agg (vals f), .int .i64 0]) (by simp [results, Tryz.results22, go_sem, q0, q1, q2, q3]; rfl) rfl ?_
    exact ⟨.inl ⟨f, HO.out, rfl⟩, HE.out.grown ((((grown_set w' ⟨w.heap.size + 1 + 1, 0, none⟩ _).trans (grown_set _ ⟨w.heap.size + 1 + 1, 1, none⟩ _)).trans (grown_set _ ⟨w.heap.size + 1 + 1, 2, none⟩ _)).trans (grown_set _ ⟨w.heap.size + 1 + 1, 3, none⟩ _)) (some_le (show w.heap.size ≤ w.heap.size + 1 + 1 by omega))⟩
  · have hb := hb2.ext hx
    have k0 := hb.at 0 (y := .int .i64 0) rfl
    have k1 := hb.at 1 (y := .int .i64 0) rfl
    have k2 := hb.at 2 (y := .int .i64 0) rfl
    have k3 := hb.at 3 (y := .int .i64 0) rfl
    have kf := hb.free
    have hb4 := (((hb.set 0 (.int .i64 0)).set 1 (.int .i64 0)).set 2 (.int .i64 0)).set 3 (.int .i64 0)
    have q0 := hb4.at 0 (y := .int .i64 0) rfl
    have q1 := hb4.at 1 (y := .int .i64 0) rfl
    have q2 := hb4.at 2 (y := .int .i64 0) rfl
    have q3 := hb4.at 3 (y := .int .i64 0) rfl
    have hlt := hb.lt
    have HO := Lib.hid ho
    have HE := Lib.hid (hE.trans hx)
    clear hW0 hb0 hb1 hb2 hE hf hb hx ho hb4
    go_wp2
    refine bodyPost_ret (v := .tuple #[.agg zero4, .int .i64 n]) (by simp [results, Tryz.results22, go_sem, q0, q1, q2, q3]; rfl) rfl ?_
    exact ⟨.inr ⟨n, HO.out, rfl⟩, HE.out.grown ((((grown_set w' ⟨w.heap.size + 1 + 1, 0, none⟩ _).trans (grown_set _ ⟨w.heap.size + 1 + 1, 1, none⟩ _)).trans (grown_set _ ⟨w.heap.size + 1 + 1, 2, none⟩ _)).trans (grown_set _ ⟨w.heap.size + 1 + 1, 3, none⟩ _)) (some_le (show w.heap.size ≤ w.heap.size + 1 + 1 by omega))⟩

end Go.Proofs.YtholmlkjcobkdaaGreat
