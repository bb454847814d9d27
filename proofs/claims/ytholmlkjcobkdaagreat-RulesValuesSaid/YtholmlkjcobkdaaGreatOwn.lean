/- Slices of terms: read, and owned by the call. -/
import Derived.Test.YtholmlkjcobkdaaGreatPush
namespace Go.Proofs.YtholmlkjcobkdaaGreat
set_option linter.all false
set_option linter.unusedSimpArgs false
set_option linter.unusedVariables false
open Go.RowKit

/-- Values that stand for terms, one by one. -/
def AllT (S : Nat → Prop) (w : World) : List Tm → List Value → Prop
  | [], [] => True
  | t :: ts, x :: xs => IsT S w t x ∧ AllT S w ts xs
  | _, _ => False

theorem AllT.length {S : Nat → Prop} {w : World} : ∀ {ts : List Tm} {xs : List Value}, AllT S w ts xs → ts.length = xs.length
  | [], [], _ => rfl
  | t :: ts, x :: xs, h => by simp [h.2.length]

theorem AllT.keep {S S' : Nat → Prop} {w w' : World} (h : ∀ a o y, S a → w.cell? ⟨a, o, none⟩ = some y → w'.cell? ⟨a, o, none⟩ = some y ∧ S' a) :
    ∀ {ts : List Tm} {xs : List Value}, AllT S w ts xs → AllT S' w' ts xs
  | [], [], _ => trivial
  | t :: ts, x :: xs, hx => ⟨hx.1.keep h, hx.2.keep h⟩

theorem AllT.ext {S : Nat → Prop} {w w' : World} (h : Ext w w') {ts : List Tm} {xs : List Value} (hx : AllT S w ts xs) : AllT S w' ts xs :=
  hx.keep fun _ _ _ hS hc => ⟨h.cell hc, hS⟩

theorem AllT.mono {S S' : Nat → Prop} {w : World} (h : ∀ b, S b → S' b) {ts : List Tm} {xs : List Value} (hx : AllT S w ts xs) : AllT S' w ts xs :=
  hx.keep fun _ _ _ hS hc => ⟨hc, h _ hS⟩

theorem AllT.snoc {S : Nat → Prop} {w : World} {t : Tm} {x : Value} (ht : IsT S w t x) : ∀ {ts : List Tm} {xs : List Value}, AllT S w ts xs → AllT S w (ts ++ [t]) (xs ++ [x])
  | [], [], _ => ⟨ht, trivial⟩
  | _ :: _, _ :: _, h => ⟨h.1, AllT.snoc ht h.2⟩

theorem AllT.get {S : Nat → Prop} {w : World} : ∀ {ts : List Tm} {xs : List Value}, AllT S w ts xs → ∀ (k : Nat) (t : Tm), ts[k]? = some t → ∃ x, xs[k]? = some x ∧ IsT S w t x
  | [], [], _, _, _, h => by simp at h
  | t :: ts, x :: xs, h, 0, u, hu => by simp at hu; subst hu; exact ⟨x, rfl, h.1⟩
  | t :: ts, x :: xs, h, k + 1, u, hu => by simp at hu; simpa using AllT.get h.2 k u hu

/-- The call owns the slice v: it holds the terms ts; their parts lie in S, and not in its row. -/
def OwnT (base : Nat) (S : Nat → Prop) (w : World) (v : Value) (ts : List Tm) : Prop :=
  ∃ xs, w.ownsRow base 99 1 v ts.length xs ∧ AllT (fun b => S b ∧ some b ≠ v.ownBlock) w ts xs

theorem OwnT.nil (base : Nat) (S : Nat → Prop) (w : World) : OwnT base S w (.slice none 0 0) [] := ⟨[], World.ownsRow_nil _ _ _ _, trivial⟩

theorem OwnT.push {base : Nat} {S : Nat → Prop} {w w' : World} {v v' : Value} {ts : List Tm} {t : Tm} {x : Value} {xs : List Value}
    (ha : AllT (fun b => S b ∧ some b ≠ v.ownBlock) w ts xs) (ht : IsT (fun b => S b ∧ some b ≠ v.ownBlock) w t x) (hp : Pushed w base 99 v ts.length xs x v' w') : OwnT base S w' v' (ts ++ [t]) := by
  obtain ⟨h1, h2, g, cap, rfl, hg, hlt⟩ := hp
  refine ⟨xs ++ [x], by simpa using h1, ?_⟩
  have hk : ∀ a o y, (S a ∧ some a ≠ v.ownBlock) → w.cell? ⟨a, o, none⟩ = some y → w'.cell? ⟨a, o, none⟩ = some y ∧ (S a ∧ some a ≠ (Value.slice (some ⟨g, 0, none⟩) (ts.length + 1) cap).ownBlock) := by
    intro a o y hS hc
    refine ⟨h2.cell (a := ⟨a, o, none⟩) hc hS.2, hS.1, ?_⟩
    simp only [Value.ownBlock, ne_eq, Option.some.injEq]
    rintro rfl
    rcases hg with hg | hg
    · exact hS.2 hg.symm
    · have := lt_of_cell hc; omega
  exact (ha.keep hk).snoc (ht.keep hk)

theorem OwnT.keep {base : Nat} {S S' : Nat → Prop} {w w' : World} {v : Value} {ts : List Tm} (h : OwnT base S w v ts) (hb : ∀ k, v.ownBlock = some k → w'.heap[k]? = w.heap[k]?)
    (hS : ∀ b, S b → b < w.heap.size → w'.heap[b]? = w.heap[b]? ∧ S' b) : OwnT base S' w' v ts := by
  obtain ⟨xs, ⟨h1, h2⟩, h3⟩ := h
  refine ⟨xs, ⟨h1, ?_⟩, h3.keep fun a o y hs hc => ⟨?_, (hS a hs.1 (lt_of_cell hc)).2, hs.2⟩⟩
  · rcases h2 with h2 | ⟨g, cap, cur, hv, hg, hh, r⟩
    · exact Or.inl h2
    · exact Or.inr ⟨g, cap, cur, hv, hg, by rw [hb g (by rw [hv]; rfl)]; exact hh, r⟩
  · rw [← hc]; exact World.cell?_of_block (w := w) (a := ⟨a, o, none⟩) (hS a hs.1 (lt_of_cell hc)).1

theorem OwnT.lt {base : Nat} {S : Nat → Prop} {w : World} {v : Value} {ts : List Tm} (h : OwnT base S w v ts) : ∀ k, v.ownBlock = some k → base ≤ k ∧ k < w.heap.size := by
  obtain ⟨xs, h1, -⟩ := h; exact h1.lt

theorem OwnT.ext {base : Nat} {S : Nat → Prop} {w w' : World} {v : Value} {ts : List Tm} (h : OwnT base S w v ts) (he : Ext w w') : OwnT base S w' v ts :=
  h.keep (fun k hk => Below.block he k (h.lt k hk).2) fun b hb hl => ⟨Below.block he b hl, hb⟩

/-- A slice that is read: it holds the terms ts. -/
def IsTs (S : Nat → Prop) (w : World) (v : Value) (ts : List Tm) : Prop :=
  (ts = [] ∧ ∃ a c, v = .slice a 0 c) ∨ ∃ a o cap xs, v = .slice (some ⟨a, o, none⟩) ts.length cap ∧ a < w.heap.size ∧ (∀ j x, xs[j]? = some x → w.cell? ⟨a, o + j, none⟩ = some x) ∧ AllT S w ts xs

theorem OwnT.read {base : Nat} {S : Nat → Prop} {w : World} {v : Value} {ts : List Tm} (h : OwnT base S w v ts) : IsTs S w v ts := by
  obtain ⟨xs, h1, h2⟩ := h
  by_cases hn : 0 < ts.length
  · obtain ⟨g, cap, rfl, hb, hlt, hc, hcell, -⟩ := owns_form h1 hn
    exact .inr ⟨g, 0, cap, xs, rfl, hlt, fun j x hj => by simpa using hcell j x hj, h2.mono fun _ h => h.1⟩
  · obtain ⟨_, ⟨rfl, h0⟩ | ⟨g, cap, cur, rfl, -⟩⟩ := h1
    · exact .inl ⟨List.length_eq_zero_iff.1 h0, none, 0, rfl⟩
    · have h0 : ts.length = 0 := by omega
      exact .inl ⟨List.length_eq_zero_iff.1 h0, _, cap, by rw [h0]⟩

theorem IsTs.ext {S : Nat → Prop} {w w' : World} {v : Value} {ts : List Tm} (he : Ext w w') (h : IsTs S w v ts) : IsTs S w' v ts := by
  rcases h with h | ⟨a, o, cap, xs, h1, h2, h3, h4⟩
  · exact .inl h
  · exact .inr ⟨a, o, cap, xs, h1, Nat.lt_of_lt_of_le h2 he.size, fun j x hj => he.cell (h3 j x hj), h4.ext he⟩

end Go.Proofs.YtholmlkjcobkdaaGreat
