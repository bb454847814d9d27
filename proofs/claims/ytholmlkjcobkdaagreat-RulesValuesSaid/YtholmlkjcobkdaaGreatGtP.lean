/- The path order: what is computed. -/
import Derived.Test.YtholmlkjcobkdaaGreatExp
namespace Go.Proofs.YtholmlkjcobkdaaGreat
set_option linter.all false
set_option linter.unusedSimpArgs false
set_option linter.unusedVariables false
open Go.RowKit
set_option maxRecDepth 100000

/-- The first two parts that differ. -/
def diff : List Tm → List Tm → Option (Tm × Tm)
  | s :: l, t :: m => if s = t then diff l m else some (s, t)
  | _, _ => none

theorem diff_mem : ∀ {l m : List Tm} {p : Tm × Tm}, diff l m = some p → p.1 ∈ l ∧ p.2 ∈ m
  | [], _, _, h => by simp [diff] at h
  | _ :: _, [], _, h => by simp [diff] at h
  | s :: l, t :: m, p, h => by
    unfold diff at h
    split at h
    · have ih := diff_mem h
      exact ⟨List.mem_cons_of_mem _ ih.1, List.mem_cons_of_mem _ ih.2⟩
    · cases h; simp

theorem kids_size {t k : Tm} (h : k ∈ t.kids) : k.size < t.size := by
  obtain ⟨d, hd⟩ := List.mem_iff_getElem?.1 h
  exact kid_size hd

/-- A term is greater than another one, by the ranks of the symbols. -/
def Tm.gt (rk : Int → Int) (s t : Tm) : Bool :=
  if t.isV then !s.isV && decide (t ∈ s.subs)
  else if s.isV then false
  else (s.kids.attach.any fun u => decide (u.1 = t) || Tm.gt rk u.1 t) ||
    (!decide (rk s.sym > rk t.sym) && (t.kids.attach.all fun u => Tm.gt rk s u.1) &&
      (decide (s.sym ≠ t.sym) || match h : diff s.kids t.kids with
        | some q => Tm.gt rk q.1 q.2
        | none => false))
termination_by s.size + t.size
decreasing_by
  · have := kids_size u.2; omega
  · have := kids_size u.2; omega
  · have h1 := kids_size (diff_mem h).1
    have h2 := kids_size (diff_mem h).2
    omega

theorem any_att {α : Type} (l : List α) (f : α → Bool) : (l.attach.any fun u => f u.1) = l.any f := by
  rw [List.any_subtype (g := f) (by intros; rfl), List.unattach_attach]
theorem all_att {α : Type} (l : List α) (f : α → Bool) : (l.attach.all fun u => f u.1) = l.all f := by
  rw [List.all_subtype (g := f) (by intros; rfl), List.unattach_attach]

theorem gt_eq (rk : Int → Int) (s t : Tm) : s.gt rk t = if t.isV then !s.isV && decide (t ∈ s.subs)
  else if s.isV then false
  else (s.kids.any fun u => decide (u = t) || u.gt rk t) ||
    (!decide (rk s.sym > rk t.sym) && (t.kids.all fun u => s.gt rk u) &&
      (decide (s.sym ≠ t.sym) || match diff s.kids t.kids with
        | some q => q.1.gt rk q.2
        | none => false)) := by
  rw [Tm.gt]
  rw [any_att s.kids fun u => decide (u = t) || u.gt rk t, all_att t.kids fun u => s.gt rk u]
  congr 4
  split <;> rename_i h <;> simp [h]

end Go.Proofs.YtholmlkjcobkdaaGreat
