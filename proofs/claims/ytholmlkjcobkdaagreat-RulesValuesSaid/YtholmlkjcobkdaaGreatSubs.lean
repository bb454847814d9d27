/- All terms within a term, handed to a loop one after the other. -/
import Derived.RangeFuncNested
import Derived.RangeFuncBound
import Derived.RangeFuncCalls
import Derived.RangeFuncLeaves
import Derived.Shelf.Abstract
import Derived.Shelf.RegionOpen
import Derived.OwnWalkIn
import Derived.TacticsInMore
import Derived.LoopNIn
import Derived.LoopIn
import Derived.Laws.EntriesVeiled
import Derived.Test.YtholmlkjcobkdaaGreatMatch
namespace Go.Proofs.YtholmlkjcobkdaaGreat
set_option linter.all false
set_option linter.unusedSimpArgs false
set_option linter.unusedVariables false
open Go.RowKit Go.Shelf
set_option maxRecDepth 100000
attribute [local go_sem] Oper.semAt_some

/-- A term and all terms in it, each before those in it, from left to right. -/
def Tm.subs : Tm → List Tm
  | .v i => [.v i]
  | .k b => [.k b]
  | .u b t => .u b t :: t.subs
  | .p b s t => .p b s t :: (s.subs ++ t.subs)

/-- All cells lie as they lay. -/
def Lies (w w' : World) : Prop := w.heap.size ≤ w'.heap.size ∧ ∀ (k : Nat) (o : Obj), w.heap[k]? = some o → o.isCells = true → w'.heap[k]? = some o

theorem Lies.refl (w : World) : Lies w w := ⟨Nat.le_refl _, fun _ _ h _ => h⟩
theorem Lies.trans {a b c : World} (h : Lies a b) (k : Lies b c) : Lies a c := ⟨Nat.le_trans h.1 k.1, fun i o hi ho => k.2 i o (h.2 i o hi ho) ho⟩
theorem Lies.cell {w w' : World} (h : Lies w w') {a : Addr} {y : Value} (hc : w.cell? a = some y) : w'.cell? a = some y := by
  obtain ⟨o, ho, hk⟩ := cells_of_cell hc
  unfold World.cell? at hc ⊢
  rw [h.2 _ o ho hk]
  rw [ho] at hc
  exact hc
theorem Ext.lies {w w' : World} (h : Ext w w') : Lies w w' := ⟨h.size, fun k o hk _ => (Below.block h k (Array.getElem?_eq_some_iff.1 hk).1).trans hk⟩
theorem Lies.grown {w w' : World} {b : Nat} {o : Obj} (hg : w.grownBy w' (some b)) (hb : w.heap[b]? = some o) (ho : o.isCells = false) : Lies w w' :=
  ⟨hg.size, fun k o' hk ho' => (hg.block k (Array.getElem?_eq_some_iff.1 hk).1 (fun e => by cases e; rw [hb] at hk; cases hk; rw [ho] at ho'; cases ho')).trans hk⟩
theorem lies_b {n : Nat} (W : World) (l : Nat) (o o' : Obj) (_ : n ≤ l) (h : W.heap[l]? = some o) (ho : o.isCells = false) (_ : o.isWalk = false) : Lies W (W.putObj l o') :=
  Lies.grown (grownBy_putObj' W l o') h ho
theorem IsT.lies {S : Nat → Prop} {w w' : World} (h : Lies w w') {t : Tm} {x : Value} (hx : IsT S w t x) : IsT S w' t x :=
  hx.keep fun _ _ _ hS hc => ⟨h.cell hc, hS⟩
theorem Ext.grows {w w' : World} (h : Ext w w') : w.grownBy w' none := ⟨h.os, h.tape, h.output, h.size, fun k hk _ => Below.block h k hk⟩

/-- A value with the term that it stands for. -/
abbrev At (w : World) := { p : Value × Tm // IsT (fun _ => True) w p.2 p.1 ∧ p.2.size ≤ 100000 }
def tms {w : World} (l : List (At w)) : List Tm := l.map fun x => x.1.2

theorem wide_fn (f : FuncId) : Fence.wide.fn f := trivial
theorem wide_depth : Fence.wide.depth = none := rfl
theorem wide_room (k : Nat) : Fence.wide.room k := fun d h => by cases h
theorem RoundIn.anyDepth {m m' : Nat} {P : Program} {l : Nat} {f : FuncId} {tmps : Array Value} {assign body : Code} {w : World} {R : Ending → World → Prop}
    (h : RoundIn Fence.wide m P l f tmps assign body w R) : RoundIn Fence.wide m' P l f tmps assign body w R := ⟨h.1, fun c cs _ => h.2 c cs (wide_room _)⟩
theorem YieldAt.anyDepth {m : Nat} (m' : Nat) {P : Program} {l : Nat} {args : Array Value} {W : World} {R : Ending → World → Prop} (h : YieldAt Fence.wide m P l args W R) : YieldAt Fence.wide m' P l args W R := by
  obtain ⟨fn, tmps, assign, body, hy, hR⟩ := h
  exact ⟨fn, tmps, assign, body, hy, RoundIn.anyDepth hR⟩

/-- What a visit comes to. -/
def Visited {w0 : World} (J Jx : List (At w0) → World → Prop) (pre : List (At w0)) (l : List Tm) (W : World) (e : Ending) (W' : World) : Prop :=
  (e = .returned (.bool true) ∧ (∃ xs, tms xs = l ∧ J (pre ++ xs) W') ∧ Lies W W') ∨ (e = .returned (.bool false) ∧ ∃ q, tms q <+: l ∧ Jx (pre ++ q) W')

/-- What one round comes to. -/
def Came {w0 : World} (J Jx : List (At w0) → World → Prop) (pre : List (At w0)) (x : At w0) (W : World) (e : Ending) (W' : World) : Prop :=
  (e = .returned (.bool true) ∧ J (pre ++ [x]) W' ∧ Lies W W') ∨ (e = .returned (.bool false) ∧ Jx (pre ++ [x]) W')

/-- A round for the value x. -/
def Rounds {w0 : World} (l : Nat) (J Jx : List (At w0) → World → Prop) (N : Nat) : Prop :=
  ∀ m pre (x : At w0) W, J pre W → pre.length < N → YieldAt Fence.wide m Tryz.prog l #[x.1.1] W (Came J Jx pre x W)

theorem as_tv (i : Fin 3) (w : World) : (Instr.typeAssert (tV i) 99 149 true).run Tryz.prog w = .ok (.tuple #[.agg #[.int .u8 0, .slice none 0 0], .bool false]) w := as_vc _ w
theorem as_tc (c : Int) (x : Value) (w : World) : (Instr.typeAssert (tC c x) 99 149 true).run Tryz.prog w = .ok (.tuple #[.agg #[.int .u8 c, x], .bool true]) w := as_cc _ _ w

theorem visit_v {w0 : World} (l N Y V : Nat) (J Jx : List (At w0) → World → Prop) (hA : ∀ s W W', J s W → Ext W W' → J s W') (hY : Rounds l J Jx N) (n : Nat) (i : Fin 3) (pre : List (At w0)) (W : World)
    (hb : W.cell? ⟨Y, 0, none⟩ = some (.func (.yield l) #[] #[])) (hJ : J pre W) (hN : pre.length < N) :
    CallsIn Fence.wide n Tryz.prog 137 #[tV i, .pointer (some ⟨Y, 0, none⟩), .pointer (some ⟨V, 0, none⟩)] W (Visited J Jx pre (Tm.v i).subs W) := by
  obtain ⟨fn, tmps, assign, body, hy, hR⟩ := hY (n - 1) pre ⟨(tV i, .v i), rfl, (by simp [Tm.size])⟩ W hJ hN
  dsimp only at hy
  have h2 := as_tv i
  have HA := Lib.hid hA
  have HR := Lib.hid hR
  clear hR hY hJ hN hA
  refine callsIn_of_wp Tryz.func137 rfl (wide_fn _) ?_ rfl
  simp only [Tryz.ntmps137, List.size_toArray, List.length_cons, List.length_nil, Nat.reduceAdd, Nat.reduceSub, Array.replicate_succ, Array.replicate_zero, List.push_toArray, List.append_toArray, List.nil_append, List.cons_append]
  gi_wp2_with ((try refine ⟨fun h => (by cases h), ?_⟩); refine HR.out.mono ?_; rintro e W1 (⟨rfl, hJ1, hk⟩ | ⟨rfl, hJx⟩))
  · go_ret
    exact .inl ⟨rfl, ⟨[⟨(tV i, .v i), rfl, (by simp [Tm.size])⟩], rfl, HA.out _ _ _ hJ1 (Ext.new _ _)⟩, hk.trans (Ext.new _ _).lies⟩
  · go_ret
    exact .inr ⟨rfl, [⟨(tV i, .v i), rfl, (by simp [Tm.size])⟩], List.prefix_refl _, hJx⟩

theorem visit_k {w0 : World} (l N Y V : Nat) (J Jx : List (At w0) → World → Prop) (hA : ∀ s W W', J s W → Ext W W' → J s W') (hY : Rounds l J Jx N) (n : Nat) (b : Bool) (pre : List (At w0)) (W : World)
    (hb : W.cell? ⟨Y, 0, none⟩ = some (.func (.yield l) #[] #[])) (hJ : J pre W) (hN : pre.length < N) :
    CallsIn Fence.wide n Tryz.prog 137 #[tC (kI b) (.slice none 0 0), .pointer (some ⟨Y, 0, none⟩), .pointer (some ⟨V, 0, none⟩)] W (Visited J Jx pre (Tm.k b).subs W) := by
  obtain ⟨fn, tmps, assign, body, hy, hR⟩ := hY (n - 1) pre ⟨(tC (kI b) (.slice none 0 0), .k b), rfl, (by simp [Tm.size])⟩ W hJ hN
  dsimp only at hy
  have h2 := as_tc (kI b) (.slice none 0 0)
  have HA := Lib.hid hA
  have HR := Lib.hid hR
  clear hR hY hJ hN hA
  refine callsIn_of_wp Tryz.func137 rfl (wide_fn _) ?_ rfl
  simp only [Tryz.ntmps137, List.size_toArray, List.length_cons, List.length_nil, Nat.reduceAdd, Nat.reduceSub, Array.replicate_succ, Array.replicate_zero, List.push_toArray, List.append_toArray, List.nil_append, List.cons_append]
  gi_wp2_with ((try refine ⟨fun h => (by cases h), ?_⟩); refine HR.out.mono ?_; rintro e W1 (⟨rfl, hJ1, hk⟩ | ⟨rfl, hJx⟩))
  · refine wpIn_loop_rounds 1 ?_
    rw [roundsIn_succ]
    gi_wp2
    go_ret
    exact .inl ⟨rfl, ⟨[⟨(tC (kI b) (.slice none 0 0), .k b), rfl, (by simp [Tm.size])⟩], rfl, HA.out _ _ _ hJ1 (Ext.new _ _)⟩, hk.trans (Ext.new _ _).lies⟩
  · go_ret
    exact .inr ⟨rfl, [⟨(tC (kI b) (.slice none 0 0), .k b), rfl, (by simp [Tm.size])⟩], List.prefix_refl _, hJx⟩

/-- The visit of a part, in whatever world in which the cells lie as they did. -/
def Visits {w0 : World} (l N Y V : Nat) (J Jx : List (At w0) → World → Prop) (W : World) (t : Tm) (x : Value) : Prop :=
  ∀ (n : Nat) (pre : List (At w0)) (W' : World), Lies W W' → J pre W' → pre.length + t.subs.length ≤ N →
    CallsIn Fence.wide n Tryz.prog 137 #[x, .pointer (some ⟨Y, 0, none⟩), .pointer (some ⟨V, 0, none⟩)] W' (Visited J Jx pre t.subs W')

theorem Visits.at {w0 : World} {l N Y V : Nat} {J Jx : List (At w0) → World → Prop} {W : World} {t : Tm} {x : Value} (h : Visits l N Y V J Jx W t x) (n : Nat) (pre : List (At w0)) (W' : World) (h1 : Lies W W') (h2 : J pre W')
    (h3 : pre.length + t.subs.length ≤ N) :
    CallsIn Fence.wide n Tryz.prog 137 #[x, .pointer (some ⟨Y, 0, none⟩), .pointer (some ⟨V, 0, none⟩)] W' (Visited J Jx pre t.subs W') := h n pre W' h1 h2 h3

theorem visit_u {w0 : World} (l N Y V : Nat) (J Jx : List (At w0) → World → Prop) (hA : ∀ s W W', J s W → Ext W W' → J s W') (hY : Rounds l J Jx N) (n : Nat) (b : Bool) (a o cap : Nat) (y : Value) (t : Tm) (pre : List (At w0)) (W : World)
    (hat : IsT (fun _ => True) w0 (.u b t) (tC (uI b) (.slice (some ⟨a, o, none⟩) 1 cap)) ∧ (Tm.u b t).size ≤ 100000)
    (hb : W.cell? ⟨Y, 0, none⟩ = some (.func (.yield l) #[] #[])) (hv : W.cell? ⟨V, 0, none⟩ = some (.func (.func 137) #[] #[.pointer (some ⟨Y, 0, none⟩), .pointer (some ⟨V, 0, none⟩)]))
    (hc : W.cell? ⟨a, o, none⟩ = some y) (ht : Visits l N Y V J Jx W t y) (hJ : J pre W) (hN : pre.length + (1 + t.subs.length) ≤ N) :
    CallsIn Fence.wide n Tryz.prog 137 #[tC (uI b) (.slice (some ⟨a, o, none⟩) 1 cap), .pointer (some ⟨Y, 0, none⟩), .pointer (some ⟨V, 0, none⟩)] W (Visited J Jx pre (Tm.u b t).subs W) := by
  obtain ⟨fn, tmps, assign, body, hy, hR⟩ := hY (n - 1) pre ⟨(tC (uI b) (.slice (some ⟨a, o, none⟩) 1 cap), .u b t), hat⟩ W hJ (by omega)
  dsimp only at hy
  have h2 := as_tc (uI b) (.slice (some ⟨a, o, none⟩) 1 cap)
  have HA := Lib.hid hA
  have HR := Lib.hid hR
  have HC := Lib.hid hc
  have HV := Lib.hid hv
  have HT := Lib.hid ht
  clear hR hY hJ hA hc hv ht
  refine callsIn_of_wp Tryz.func137 rfl (wide_fn _) ?_ rfl
  simp only [Tryz.ntmps137, List.size_toArray, List.length_cons, List.length_nil, Nat.reduceAdd, Nat.reduceSub, Array.replicate_succ, Array.replicate_zero, List.push_toArray, List.append_toArray, List.nil_append, List.cons_append]
  gi_wp2_with ((try refine ⟨fun h => (by cases h), ?_⟩); refine HR.out.mono ?_; rintro e W1 (⟨rfl, hJ1, hk⟩ | ⟨rfl, hJx⟩))
  · have hc1 := hk.cell HC.out
    have hv1 := hk.cell HV.out
    have HJ1 := Lib.hid hJ1
    have HK := Lib.hid hk
    clear HR hJ1 hk hy hb
    have hlt := lt_of_cell hc1
    have hltv := lt_of_cell hv1
    refine wpIn_loop_rounds 2 ?_
    rw [roundsIn_succ]
    gi_wp2_with (refine ⟨trivial, fun h => (by cases h), ?_⟩; (with_reducible refine (HT.out.at (n - 1) (pre ++ [⟨(tC (uI b) (.slice (some ⟨a, o, none⟩) 1 cap), .u b t), hat⟩]) _ (HK.out.trans (Ext.new _ _).lies) (HA.out _ _ _ HJ1.out (Ext.new _ _)) (by simp; omega)).mono ?_); rintro e W2 (⟨rfl, ⟨xs, hxs, hJ2⟩, hk2⟩ | ⟨rfl, q, hq, hJx⟩))
    · have HX := Lib.hid hxs
      have HJ2 := Lib.hid hJ2
      have HK2 := Lib.hid hk2
      clear hxs hJ2 hk2
      rw [roundsIn_succ]
      gi_wp2
      go_ret
      exact .inl ⟨rfl, ⟨⟨(tC (uI b) (.slice (some ⟨a, o, none⟩) 1 cap), .u b t), hat⟩ :: xs, by simp [tms, Tm.subs, ← HX.out], by simpa using HJ2.out⟩, (HK.out.trans (Ext.new _ _).lies).trans HK2.out⟩
    · go_ret
      exact .inr ⟨rfl, ⟨(tC (uI b) (.slice (some ⟨a, o, none⟩) 1 cap), .u b t), hat⟩ :: q, by simpa [tms, Tm.subs] using hq, by simpa using hJx⟩
  · go_ret
    exact .inr ⟨rfl, [⟨(tC (uI b) (.slice (some ⟨a, o, none⟩) 1 cap), .u b t), hat⟩], by simp [tms, Tm.subs], hJx⟩

theorem visit_p {w0 : World} (l N Y V : Nat) (J Jx : List (At w0) → World → Prop) (hA : ∀ s W W', J s W → Ext W W' → J s W') (hY : Rounds l J Jx N) (n : Nat) (b : Bool) (a o cap : Nat) (y z : Value) (s t : Tm) (pre : List (At w0)) (W : World)
    (hat : IsT (fun _ => True) w0 (.p b s t) (tC (pI b) (.slice (some ⟨a, o, none⟩) 2 cap)) ∧ (Tm.p b s t).size ≤ 100000)
    (hb : W.cell? ⟨Y, 0, none⟩ = some (.func (.yield l) #[] #[])) (hv : W.cell? ⟨V, 0, none⟩ = some (.func (.func 137) #[] #[.pointer (some ⟨Y, 0, none⟩), .pointer (some ⟨V, 0, none⟩)]))
    (hc : W.cell? ⟨a, o, none⟩ = some y) (hd : W.cell? ⟨a, o + 1, none⟩ = some z) (hs : Visits l N Y V J Jx W s y) (ht : Visits l N Y V J Jx W t z) (hJ : J pre W) (hN : pre.length + (1 + (s.subs.length + t.subs.length)) ≤ N) :
    CallsIn Fence.wide n Tryz.prog 137 #[tC (pI b) (.slice (some ⟨a, o, none⟩) 2 cap), .pointer (some ⟨Y, 0, none⟩), .pointer (some ⟨V, 0, none⟩)] W (Visited J Jx pre (Tm.p b s t).subs W) := by
  obtain ⟨fn, tmps, assign, body, hy, hR⟩ := hY (n - 1) pre ⟨(tC (pI b) (.slice (some ⟨a, o, none⟩) 2 cap), .p b s t), hat⟩ W hJ (by omega)
  dsimp only at hy
  have h2 := as_tc (pI b) (.slice (some ⟨a, o, none⟩) 2 cap)
  have HA := Lib.hid hA
  have HR := Lib.hid hR
  have HC := Lib.hid hc
  have HD := Lib.hid hd
  have HV := Lib.hid hv
  have HS := Lib.hid hs
  have HT := Lib.hid ht
  clear hR hY hJ hA hc hd hv hs ht
  refine callsIn_of_wp Tryz.func137 rfl (wide_fn _) ?_ rfl
  simp only [Tryz.ntmps137, List.size_toArray, List.length_cons, List.length_nil, Nat.reduceAdd, Nat.reduceSub, Array.replicate_succ, Array.replicate_zero, List.push_toArray, List.append_toArray, List.nil_append, List.cons_append]
  gi_wp2_with ((try refine ⟨fun h => (by cases h), ?_⟩); refine HR.out.mono ?_; rintro e W1 (⟨rfl, hJ1, hk⟩ | ⟨rfl, hJx⟩))
  · have hc1 := hk.cell HC.out
    have hv1 := hk.cell HV.out
    have HJ1 := Lib.hid hJ1
    have HK := Lib.hid hk
    clear HR hJ1 hk hy hb
    have hlt := lt_of_cell hc1
    have hltv := lt_of_cell hv1
    refine wpIn_loop_rounds 3 ?_
    rw [roundsIn_succ]
    gi_wp2_with (refine ⟨trivial, fun h => (by cases h), ?_⟩; (with_reducible refine (HS.out.at (n - 1) (pre ++ [⟨(tC (pI b) (.slice (some ⟨a, o, none⟩) 2 cap), .p b s t), hat⟩]) _ (HK.out.trans (Ext.new _ _).lies) (HA.out _ _ _ HJ1.out (Ext.new _ _)) (by simp; omega)).mono ?_); rintro e W2 (⟨rfl, ⟨xs, hxs, hJ2⟩, hk2⟩ | ⟨rfl, q, hq, hJx⟩))
    · have HX := Lib.hid hxs
      have HJ2 := Lib.hid hJ2
      have HK2 := Lib.hid ((HK.out.trans (Ext.new _ _).lies).trans hk2)
      have hlen : s.subs.length = xs.length := by rw [← HX.out]; simp [tms]
      have hd1 := HK2.out.cell HD.out
      have hv1 := HK2.out.cell HV.out
      clear hxs hJ2 hk2 hc1
      have hlt := lt_of_cell hd1
      have hltv := lt_of_cell hv1
      rw [roundsIn_succ]
      gi_wp2_with (refine ⟨trivial, fun h => (by cases h), ?_⟩; (with_reducible refine (HT.out.at (n - 1) _ _ HK2.out HJ2.out (by simp; omega)).mono ?_); rintro e W3 (⟨rfl, ⟨ys, hys, hJ3⟩, hk3⟩ | ⟨rfl, q, hq, hJx⟩))
      · have HX2 := Lib.hid hys
        have HJ3 := Lib.hid hJ3
        have HK3 := Lib.hid (HK2.out.trans hk3)
        clear hys hJ3 hk3
        rw [roundsIn_succ]
        gi_wp2
        go_ret
        exact .inl ⟨rfl, ⟨⟨(tC (pI b) (.slice (some ⟨a, o, none⟩) 2 cap), .p b s t), hat⟩ :: (xs ++ ys), by rw [Tm.subs, ← HX.out, ← HX2.out]; simp [tms], by simpa using HJ3.out⟩, HK3.out⟩
      · go_ret
        refine .inr ⟨rfl, ⟨(tC (pI b) (.slice (some ⟨a, o, none⟩) 2 cap), .p b s t), hat⟩ :: (xs ++ q), ?_, by simpa using hJx⟩
        have h := HX.out
        obtain ⟨r, hr⟩ := hq
        exact ⟨r, by rw [Tm.subs, ← h, ← hr]; simp [tms]⟩
    · go_ret
      refine .inr ⟨rfl, ⟨(tC (pI b) (.slice (some ⟨a, o, none⟩) 2 cap), .p b s t), hat⟩ :: q, ?_, by simpa using hJx⟩
      obtain ⟨r, hr⟩ := hq
      exact ⟨r ++ t.subs, by rw [Tm.subs, ← hr]; simp [tms]⟩
  · go_ret
    exact .inr ⟨rfl, [⟨(tC (pI b) (.slice (some ⟨a, o, none⟩) 2 cap), .p b s t), hat⟩], by simp [tms, Tm.subs], hJx⟩

theorem Tm.subs_pos (t : Tm) : 0 < t.subs.length := by cases t <;> simp [Tm.subs]

/-- A visit of any term. -/
theorem visit_any {w0 : World} (l N Y V : Nat) (J Jx : List (At w0) → World → Prop) (hA : ∀ s W W', J s W → Ext W W' → J s W') (hY : Rounds l J Jx N) : ∀ (t : Tm) (x : Value) (W : World),
    t.size ≤ 100000 → IsT (fun _ => True) w0 t x → Lies w0 W → W.cell? ⟨Y, 0, none⟩ = some (.func (.yield l) #[] #[]) →
    W.cell? ⟨V, 0, none⟩ = some (.func (.func 137) #[] #[.pointer (some ⟨Y, 0, none⟩), .pointer (some ⟨V, 0, none⟩)]) → Visits l N Y V J Jx W t x := by
  intro t
  induction t with
  | v i =>
    rintro x W hsz rfl hw hy hv n pre W' hl hJ hN
    exact visit_v l N Y V J Jx hA hY n i pre W' (hl.cell hy) hJ (by simp [Tm.subs] at hN; omega)
  | k b =>
    rintro x W hsz rfl hw hy hv n pre W' hl hJ hN
    exact visit_k l N Y V J Jx hA hY n b pre W' (hl.cell hy) hJ (by simp [Tm.subs] at hN; omega)
  | u b t ih =>
    rintro x W hsz hat hw hy hv n pre W' hl hJ hN
    obtain ⟨a, o, cap, y, rfl, -, hc, ht⟩ := id hat
    exact visit_u l N Y V J Jx hA hY n b a o cap y t pre W' ⟨hat, hsz⟩ (hl.cell hy) (hl.cell hv) ((hw.trans hl).cell hc) (ih y W' (by simp only [Tm.size] at hsz; omega) ht (hw.trans hl) (hl.cell hy) (hl.cell hv)) hJ (by simp [Tm.subs] at hN; omega)
  | p b s t ihs iht =>
    rintro x W hsz hat hw hy hv n pre W' hl hJ hN
    obtain ⟨a, o, cap, y, z, rfl, -, hc, hd, hs, ht⟩ := id hat
    exact visit_p l N Y V J Jx hA hY n b a o cap y z s t pre W' ⟨hat, hsz⟩ (hl.cell hy) (hl.cell hv) ((hw.trans hl).cell hc) ((hw.trans hl).cell hd) (ihs y W' (by simp only [Tm.size] at hsz; omega) hs (hw.trans hl) (hl.cell hy) (hl.cell hv))
      (iht z W' (by simp only [Tm.size] at hsz; omega) ht (hw.trans hl) (hl.cell hy) (hl.cell hv)) hJ (by simp [Tm.subs] at hN; omega)

/-- 'subterms' hands back the function that visits. -/
theorem subterms_any (T : TypeId) (y : Value) (w : World) : Calls Tryz.prog 110 #[.iface T y] w fun e w' =>
    e = .returned (.func (.func 136) #[] #[.pointer (some ⟨w.heap.size, 0, none⟩)]) ∧ w' = w.alloc (.cells #[.iface T y] 99) := by
  go_enter Tryz.func110, Tryz.ntmps110
  go_wp2
  go_ret
  exact ⟨rfl, rfl⟩

/-- What a loop over the terms in a term comes to. -/
def Visit1 {w0 : World} (J Jx : List (At w0) → World → Prop) (l : List Tm) (e : Ending) (W' : World) : Prop :=
  (∃ v, e = .returned v) ∧ ((∃ xs, tms xs = l ∧ J xs W') ∨ (∃ q, tms q <+: l ∧ Jx q W'))

theorem subterms1_any {w0 : World} (n l B : Nat) (J Jx : List (At w0) → World → Prop) (hA : ∀ s W W', J s W → Ext W W' → J s W') (t : Tm) (hY : Rounds l J Jx t.subs.length) (x : Value) (W : World) (hsz : t.size ≤ 100000)
    (hx : IsT (fun _ => True) w0 t x) (hw : Lies w0 W) (hc : W.cell? ⟨B, 0, none⟩ = some x) (hJ : J [] W) :
    CallsIn Fence.wide n Tryz.prog 136 #[.func (.yield l) #[] #[], .pointer (some ⟨B, 0, none⟩)] W (Visit1 J Jx t.subs) := by
  obtain ⟨T, y, rfl⟩ := hx.iface
  have hlt := lt_of_cell hc
  have HA := Lib.hid hA
  have HY := Lib.hid hY
  have HX := Lib.hid hx
  have HW := Lib.hid hw
  have HJ := Lib.hid hJ
  clear hA hY hx hw hJ
  refine callsIn_of_wp Tryz.func136 rfl (wide_fn _) ?_ rfl
  simp only [Tryz.ntmps136, List.size_toArray, List.length_cons, List.length_nil, Nat.reduceAdd, Nat.reduceSub, Array.replicate_succ, Array.replicate_zero, List.push_toArray, List.append_toArray, List.nil_append, List.cons_append]
  have hbx : Bx ((W.alloc (.cells #[.func (.yield l) #[] #[]] 165)).alloc (.cells #[.nilFunc] 165)) (W.heap.size + 1) #[.nilFunc] 165 := by
    have h := Bx.new (W.alloc (.cells #[.func (.yield l) #[] #[]] 165)) #[.nilFunc] 165
    simpa using h
  obtain ⟨w1, hw1⟩ : ∃ w1, (W.alloc (.cells #[.func (.yield l) #[] #[]] 165)).alloc (.cells #[.nilFunc] 165) = w1 := ⟨_, rfl⟩
  have hE : Ext W w1 := hw1 ▸ (Ext.new _ _).alloc _
  have hy1 : w1.cell? ⟨W.heap.size, 0, none⟩ = some (.func (.yield l) #[] #[]) := by
    rw [← hw1]; exact (Ext.new _ _).cell ((Bx.new W #[.func (.yield l) #[] #[]] _).cell 0)
  rw [hw1] at hbx
  have hc1 : w1.cell? ⟨W.heap.size + 1, 0, none⟩ = some .nilFunc := (hbx.cell 0).trans rfl
  have hf1 := hbx.free 0
  have hcB := hE.cell hc
  obtain ⟨w2, hw2⟩ : ∃ w2, w1.setCell ⟨W.heap.size + 1, 0, none⟩ (.func (.func 137) #[] #[.pointer (some ⟨W.heap.size, 0, none⟩), .pointer (some ⟨W.heap.size + 1, 0, none⟩)]) = w2 := ⟨_, rfl⟩
  have hE2 : Ext W w2 := hw2 ▸ hE.grown (grown_set w1 ⟨W.heap.size + 1, 0, none⟩ _) (fun k e => by cases e; exact Nat.le_succ _)
  have hc2 : w2.cell? ⟨W.heap.size + 1, 0, none⟩ = some (.func (.func 137) #[] #[.pointer (some ⟨W.heap.size, 0, none⟩), .pointer (some ⟨W.heap.size + 1, 0, none⟩)]) :=
    hw2 ▸ ((hbx.set 0 _).cell 0).trans rfl
  have hy2 : w2.cell? ⟨W.heap.size, 0, none⟩ = some (.func (.yield l) #[] #[]) := by
    rw [← hw2]; exact ((grown_set w1 ⟨W.heap.size + 1, 0, none⟩ _).cell (a := ⟨W.heap.size, 0, none⟩) hy1 (ne_some (by simp)))
  have hB2 := hE2.cell hc
  have HE2 := Lib.hid hE2
  have HY2 := Lib.hid hy2
  have HB2 := Lib.hid hB2
  have HC2 := Lib.hid hc2
  have HW2 := Lib.hid hw2
  clear hw2 hE hE2 hy1 hy2
  gi_wp2_with (first | (rw [hw1]) | (rw [HW2.out]) | (refine ⟨trivial, fun h => (by cases h), ?_⟩; (with_reducible refine ((visit_any l t.subs.length W.heap.size (W.heap.size + 1) J Jx HA.out HY.out t (.iface T y) w2 hsz HX.out (HW.out.trans HE2.out.lies) HY2.out HC2.out).at (n - 1) [] w2 (Lies.refl _) (HA.out _ _ _ HJ.out HE2.out) (by simp)).mono ?_); rintro e W1 (⟨rfl, ⟨xs, hxs, hJ2⟩, hk2⟩ | ⟨rfl, q, hq, hJx⟩)))
  · go_end0
    exact ⟨⟨_, rfl⟩, .inl ⟨xs, hxs, by simpa using hJ2⟩⟩
  · go_end0
    exact ⟨⟨_, rfl⟩, .inr ⟨q, hq, by simpa using hJx⟩⟩

/-- 'subterms' as a loop has it. -/
theorem subs_stops (n : Nat) (w0 w : World) (B : Nat) (t : Tm) (x : Value) (hsz : t.size ≤ 100000) (hx : IsT (fun _ => True) w0 t x) (hw : Lies w0 w) (hc : w.cell? ⟨B, 0, none⟩ = some x) :
    SeqStopsK Fence.wide n Tryz.prog 136 #[.pointer (some ⟨B, 0, none⟩)] (fun x : At w0 => #[x.1.1]) Lies (fun xs => tms xs = t.subs) (fun q => tms q <+: t.subs) t.subs.length w := by
  intro l J Jx W hW hJ hJx hY h0
  have hA : ∀ s W1 W2, J s W1 → Ext W1 W2 → J s W2 := fun s W1 W2 hs he => hJ s W1 W2 none hs he.grows (fun r e => by cases e)
  exact subterms1_any n l B J Jx hA t (fun m pre x W1 hj hl => YieldAt.anyDepth m (hY pre x W1 hj hl)) x W hsz hx (hw.trans (Ext.lies hW)) (Ext.cell hW hc) h0

end Go.Proofs.YtholmlkjcobkdaaGreat
