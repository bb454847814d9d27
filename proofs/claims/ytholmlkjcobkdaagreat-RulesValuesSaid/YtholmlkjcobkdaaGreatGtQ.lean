/- The path order: how 'compare' comes to its answers. -/
import Derived.Test.YtholmlkjcobkdaaGreatGt
namespace Go.Proofs.YtholmlkjcobkdaaGreat
set_option linter.all false
set_option linter.unusedSimpArgs false
set_option linter.unusedVariables false
open Go.RowKit
set_option maxRecDepth 100000

theorem gt_to_v (rk : Int → Int) (s : Tm) (i : Fin 3) : s.gt rk (.v i) = (!s.isV && decide (Tm.v i ∈ s.subs)) := by
  rw [gt_eq]; simp [Tm.isV]
theorem gt_of_v (rk : Int → Int) (i : Fin 3) {t : Tm} (h : t.isV = false) : (Tm.v i).gt rk t = false := by
  rw [gt_eq, h]; simp [Tm.isV]

theorem gt_comp (rk : Int → Int) {s t : Tm} (hs : s.isV = false) (ht : t.isV = false) : s.gt rk t = ((s.kids.any fun u => decide (u = t) || u.gt rk t) ||
    (!decide (rk s.sym > rk t.sym) && (t.kids.all fun u => s.gt rk u) &&
      (decide (s.sym ≠ t.sym) || match diff s.kids t.kids with
        | some q => q.1.gt rk q.2
        | none => false))) := by
  rw [gt_eq, hs, ht, if_neg (by simp), if_neg (by simp)]; rfl

theorem gt_kid {rk : Int → Int} {s t u : Tm} (hs : s.isV = false) (ht : t.isV = false) (hu : u ∈ s.kids) (h : u = t ∨ u.gt rk t = true) : s.gt rk t = true := by
  rw [gt_comp rk hs ht]
  have : (s.kids.any fun u => decide (u = t) || u.gt rk t) = true := List.any_eq_true.2 ⟨u, hu, by rcases h with h | h <;> simp [h]⟩
  rw [this]; rfl

theorem gt_rest {rk : Int → Int} {s t : Tm} (hs : s.isV = false) (ht : t.isV = false) (hk : ∀ u ∈ s.kids, u ≠ t ∧ u.gt rk t = false) : s.gt rk t = (!decide (rk s.sym > rk t.sym) && (t.kids.all fun u => s.gt rk u) &&
      (decide (s.sym ≠ t.sym) || match diff s.kids t.kids with
        | some q => q.1.gt rk q.2
        | none => false)) := by
  rw [gt_comp rk hs ht]
  have : (s.kids.any fun u => decide (u = t) || u.gt rk t) = false := by
    rw [List.any_eq_false]
    intro u hu
    simp [(hk u hu).1, (hk u hu).2]
  rw [this]; rfl

theorem gt_rank {rk : Int → Int} {s t : Tm} (hs : s.isV = false) (ht : t.isV = false) (hk : ∀ u ∈ s.kids, u ≠ t ∧ u.gt rk t = false) (h : rk s.sym > rk t.sym) : s.gt rk t = false := by
  rw [gt_rest hs ht hk, decide_eq_true h]; rfl

theorem gt_part {rk : Int → Int} {s t u : Tm} (hs : s.isV = false) (ht : t.isV = false) (hk : ∀ u ∈ s.kids, u ≠ t ∧ u.gt rk t = false) (hu : u ∈ t.kids) (h : s.gt rk u = false) : s.gt rk t = false := by
  rw [gt_rest hs ht hk]
  have : (t.kids.all fun u => s.gt rk u) = false := by
    rw [List.all_eq_false]; exact ⟨u, hu, by simp [h]⟩
  rw [this]; simp

theorem gt_all {rk : Int → Int} {s t : Tm} (hs : s.isV = false) (ht : t.isV = false) (hk : ∀ u ∈ s.kids, u ≠ t ∧ u.gt rk t = false) (hr : ¬ rk s.sym > rk t.sym) (ha : ∀ u ∈ t.kids, s.gt rk u = true) : s.gt rk t =
      (decide (s.sym ≠ t.sym) || match diff s.kids t.kids with
        | some q => q.1.gt rk q.2
        | none => false) := by
  rw [gt_rest hs ht hk, decide_eq_false hr, List.all_eq_true.2 ha]; rfl

theorem gt_more {rk : Int → Int} {s t : Tm} (hs : s.isV = false) (ht : t.isV = false) (hk : ∀ u ∈ s.kids, u ≠ t ∧ u.gt rk t = false) (hr : ¬ rk s.sym > rk t.sym) (ha : ∀ u ∈ t.kids, s.gt rk u = true) (h : s.sym ≠ t.sym) : s.gt rk t = true := by
  rw [gt_all hs ht hk hr ha, decide_eq_true h]; rfl

theorem diff_at : ∀ {l m : List Tm} {d : Nat} {a b : Tm}, l.take d = m.take d → l[d]? = some a → m[d]? = some b → a ≠ b → diff l m = some (a, b)
  | [], _, _, _, _, _, h, _, _ => by simp at h
  | _ :: _, [], _, _, _, _, _, h, _ => by simp at h
  | s :: l, t :: m, 0, a, b, _, h1, h2, hn => by
    simp only [List.getElem?_cons_zero, Option.some.injEq] at h1 h2
    subst h1; subst h2
    unfold diff; rw [if_neg hn]
  | s :: l, t :: m, d + 1, a, b, h, h1, h2, hn => by
    simp only [List.take_succ_cons, List.cons.injEq] at h
    unfold diff; rw [if_pos h.1]
    exact diff_at h.2 (by simpa using h1) (by simpa using h2) hn

theorem diff_same : ∀ l : List Tm, diff l l = none
  | [] => rfl
  | s :: l => by unfold diff; rw [if_pos rfl, diff_same l]

theorem gt_lex {rk : Int → Int} {s t : Tm} (hs : s.isV = false) (ht : t.isV = false) (hk : ∀ u ∈ s.kids, u ≠ t ∧ u.gt rk t = false) (hr : ¬ rk s.sym > rk t.sym) (ha : ∀ u ∈ t.kids, s.gt rk u = true) (h : s.sym = t.sym)
    {d : Nat} {a b : Tm} (h0 : s.kids.take d = t.kids.take d) (h1 : s.kids[d]? = some a) (h2 : t.kids[d]? = some b) (hn : a ≠ b) : s.gt rk t = a.gt rk b := by
  rw [gt_all hs ht hk hr ha, diff_at h0 h1 h2 hn, decide_eq_false (by simp [h])]; rfl

theorem gt_same {rk : Int → Int} {s t : Tm} (hs : s.isV = false) (ht : t.isV = false) (hk : ∀ u ∈ s.kids, u ≠ t ∧ u.gt rk t = false) (hr : ¬ rk s.sym > rk t.sym) (ha : ∀ u ∈ t.kids, s.gt rk u = true) (h : s.sym = t.sym)
    (h0 : s.kids = t.kids) : s.gt rk t = false := by
  rw [gt_all hs ht hk hr ha, h0, diff_same, decide_eq_false (by simp [h])]; rfl


theorem sym_kids {s t : Tm} (hs : s.isV = false) (ht : t.isV = false) (h : s.sym = t.sym) : s.kids.length = t.kids.length := by
  cases s <;> cases t <;> simp only [Tm.isV, Tm.sym, Tm.kids, List.length_nil, List.length_cons] at * <;>
    first | rfl | (cases hs; done) | (cases ht; done) | exact absurd h (kI_uI _ _) | exact absurd h (kI_pI _ _) | exact absurd h (uI_pI _ _) | exact absurd h.symm (kI_uI _ _) | exact absurd h.symm (kI_pI _ _) | exact absurd h.symm (uI_pI _ _)

/-- The symbol's byte. -/
def Tm.symB : Tm → UInt8
  | .v i => Tm.vb i
  | .k b => Tm.kb b
  | .u b _ => Tm.ub b
  | .p b _ _ => Tm.pb b

theorem symB_sym (t : Tm) : (t.symB.toNat : Int) = t.sym := by
  cases t with
  | v i => revert i; decide
  | k b => revert b; decide
  | u b t => show ((Tm.ub b).toNat : Int) = uI b; revert b; decide
  | p b s t => show ((Tm.pb b).toNat : Int) = pI b; revert b; decide
theorem symB_in {t : Tm} (h : t.isV = false) : 97 ≤ t.symB.toNat ∧ t.symB.toNat ≤ 102 := by
  cases t with
  | v i => simp [Tm.isV] at h
  | k b => clear h; revert b; decide
  | u b t => clear h; show 97 ≤ (Tm.ub b).toNat ∧ (Tm.ub b).toNat ≤ 102; revert b; decide
  | p b s t => clear h; show 97 ≤ (Tm.pb b).toNat ∧ (Tm.pb b).toNat ≤ 102; revert b; decide

theorem enc_sym (t : Tm) : (.int .u8 t.sym : Value) = encB t.symB := by rw [encB, symB_sym]

end Go.Proofs.YtholmlkjcobkdaaGreat
