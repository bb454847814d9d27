/- The next terms of a term: what is computed. -/
import Derived.Test.YtholmlkjcobkdaaGreatCloneT
namespace Go.Proofs.YtholmlkjcobkdaaGreat
set_option linter.all false
set_option linter.unusedSimpArgs false
set_option linter.unusedVariables false
open Go.RowKit
set_option maxRecDepth 100000

def Tm.kids : Tm → List Tm
  | .u _ t => [t]
  | .p _ s t => [s, t]
  | _ => []

/-- The term with another part at position i. -/
def Tm.put : Tm → Nat → Tm → Tm
  | .u b _, _, r => .u b r
  | .p b s t, i, r => if i = 0 then .p b r t else .p b s r
  | t, _, _ => t

/-- All next terms of a term. -/
def nexts (ls : List (Tm × Tm)) : Tm → List Tm
  | .v i => rootT ls (.v i)
  | .k b => rootT ls (.k b)
  | .u b t => rootT ls (.u b t) ++ (nexts ls t).map (.u b)
  | .p b s t => rootT ls (.p b s t) ++ ((nexts ls s).map fun r => .p b r t) ++ (nexts ls t).map fun r => .p b s r

/-- The next terms by way of the first d parts. -/
def nextD (ls : List (Tm × Tm)) (t : Tm) (d : Nat) : List Tm := rootT ls t ++ (List.range d).flatMap fun i => match t.kids[i]? with
  | some k => (nexts ls k).map (t.put i)
  | none => []

theorem nextD_zero (ls : List (Tm × Tm)) (t : Tm) : nextD ls t 0 = rootT ls t := by simp [nextD]
theorem nextD_succ {ls : List (Tm × Tm)} {t k : Tm} {d : Nat} (h : t.kids[d]? = some k) : nextD ls t (d + 1) = nextD ls t d ++ (nexts ls k).map (t.put d) := by
  simp only [nextD, List.range_succ, List.flatMap_append, List.flatMap_cons, List.flatMap_nil, h, List.append_nil, List.append_assoc]
theorem nextD_all (ls : List (Tm × Tm)) (t : Tm) : nextD ls t t.kids.length = nexts ls t := by
  cases t with
  | v i => simp [nextD, Tm.kids, nexts]
  | k b => simp [nextD, Tm.kids, nexts]
  | u b t => simp [nextD, Tm.kids, nexts, show (Tm.u b t).put 0 = Tm.u b from rfl, show List.range 1 = [0] from rfl]
  | p b s t => simp [nextD, Tm.kids, nexts, show (Tm.p b s t).put 0 = fun r => .p b r t from rfl, show (Tm.p b s t).put 1 = fun r => .p b s r from rfl, show List.range 2 = [0, 1] from rfl]

theorem mt_le (N : Nat) : ∀ (p t : Tm) (σ σ' : Sub), (∀ i u, σ i = some u → u.size ≤ N) → t.size ≤ N → p.mt t σ = some σ' → ∀ i u, σ' i = some u → u.size ≤ N := by
  intro p
  induction p with
  | v i =>
    intro t σ σ' hs ht h
    simp only [Tm.mt] at h
    split at h
    · split at h
      · cases h; exact hs
      · cases h
    · cases h
      intro j u hj
      by_cases hji : j = i
      · simp only [if_pos hji, Option.some.injEq] at hj; subst hj; exact ht
      · simp only [if_neg hji] at hj; exact hs j u hj
  | k b =>
    intro t σ σ' hs ht h
    simp only [Tm.mt] at h
    split at h
    · cases h; exact hs
    · cases h
  | u b r ih =>
    intro t σ σ' hs ht h
    cases t with
    | u b' t =>
      simp only [Tm.mt] at h
      split at h
      · exact ih t σ σ' hs (by simp only [Tm.size] at ht; omega) h
      · cases h
    | v i => simp [Tm.mt] at h
    | k b => simp [Tm.mt] at h
    | p b s t => simp [Tm.mt] at h
  | p b r q ih1 ih2 =>
    intro t σ σ' hs ht h
    cases t with
    | p b' s t =>
      simp only [Tm.mt] at h
      split at h
      · simp only [Tm.size] at ht
        cases hr : r.mt s σ with
        | none => rw [hr] at h; cases h
        | some τ => rw [hr] at h; exact ih2 t τ σ' (ih1 s σ τ hs (by omega) hr) (by omega) h
      · cases h
    | v i => simp [Tm.mt] at h
    | k b => simp [Tm.mt] at h
    | u b t => simp [Tm.mt] at h

theorem sub_size {N : Nat} (hN : 1 ≤ N) {σ : Sub} (hs : ∀ i u, σ i = some u → u.size ≤ N) : ∀ t : Tm, (t.sub σ).size ≤ t.size * N := by
  intro t
  induction t with
  | v i =>
    simp only [Tm.sub, Tm.size, Nat.one_mul]
    cases h : σ i with
    | none => simpa [Tm.size] using hN
    | some u => exact hs i u h
  | k b => simpa [Tm.sub, Tm.size] using hN
  | u b t ih => simp only [Tm.sub, Tm.size, Nat.add_mul, Nat.one_mul]; omega
  | p b s t ihs iht => simp only [Tm.sub, Tm.size, Nat.add_mul, Nat.one_mul]; omega

theorem rootT_size {ls : List (Tm × Tm)} {C : Nat} (hl : ∀ l ∈ ls, l.2.size ≤ C) (t : Tm) : ∀ u ∈ rootT ls t, u.size ≤ C * t.size := by
  intro u hu
  obtain ⟨l, hm, hq⟩ := List.mem_filterMap.1 hu
  cases h : l.1.mt t fun _ => none with
  | none => rw [h] at hq; cases hq
  | some σ =>
    rw [h] at hq
    cases hq
    exact Nat.le_trans (sub_size t.size_pos (mt_le t.size _ _ _ _ (fun _ _ h => by simp at h) (Nat.le_refl _) h) _) (Nat.mul_le_mul_right _ (hl l hm))

theorem nexts_size {ls : List (Tm × Tm)} {C : Nat} (hl : ∀ l ∈ ls, l.2.size ≤ C) : ∀ (t u : Tm), u ∈ nexts ls t → u.size ≤ (C + 1) * t.size := by
  have h0 : ∀ t u, u ∈ rootT ls t → u.size ≤ (C + 1) * t.size := fun t u h => Nat.le_trans (rootT_size hl t u h) (Nat.mul_le_mul_right _ (Nat.le_succ _))
  intro t
  induction t with
  | v i => exact fun u h => h0 _ u h
  | k b => exact fun u h => h0 _ u h
  | u b t ih =>
    intro u h
    simp only [nexts, List.mem_append, List.mem_map] at h
    rcases h with h | ⟨r, hr, rfl⟩
    · exact h0 _ u h
    · have h1 := ih r hr
      simp only [Tm.size, Nat.mul_add, Nat.mul_one]; omega
  | p b s t ihs iht =>
    intro u h
    simp only [nexts, List.mem_append, List.mem_map] at h
    rcases h with (h | ⟨r, hr, rfl⟩) | ⟨r, hr, rfl⟩
    · exact h0 _ u h
    · have h1 := ihs r hr
      have h2 : t.size ≤ (C + 1) * t.size := Nat.le_mul_of_pos_left _ (Nat.succ_pos _)
      simp only [Tm.size, Nat.mul_add, Nat.mul_one]; omega
    · have h1 := iht r hr
      have h2 : s.size ≤ (C + 1) * s.size := Nat.le_mul_of_pos_left _ (Nat.succ_pos _)
      simp only [Tm.size, Nat.mul_add, Nat.mul_one]; omega

theorem nexts_length (ls : List (Tm × Tm)) : ∀ t : Tm, (nexts ls t).length ≤ ls.length * t.size := by
  intro t
  induction t with
  | v i => simpa [nexts, Tm.size] using rootT_length ls _
  | k b => simpa [nexts, Tm.size] using rootT_length ls _
  | u b t ih =>
    have h := rootT_length ls (.u b t)
    simp only [nexts, List.length_append, List.length_map, Tm.size, Nat.mul_add, Nat.mul_one]; omega
  | p b s t ihs iht =>
    have h := rootT_length ls (.p b s t)
    simp only [nexts, List.length_append, List.length_map, Tm.size, Nat.mul_add, Nat.mul_one]; omega

theorem nextD_prefix (ls : List (Tm × Tm)) (t : Tm) {d : Nat} (h : d ≤ t.kids.length) : nextD ls t d <+: nexts ls t := by
  rw [← nextD_all]
  unfold nextD
  obtain ⟨e, he⟩ := Nat.le.dest h
  refine ⟨(List.range e).flatMap fun i => match t.kids[d + i]? with
    | some k => (nexts ls k).map (t.put (d + i))
    | none => [], ?_⟩
  rw [← he, List.range_add, List.flatMap_append, List.flatMap_map, List.append_assoc]

theorem put_size {t k : Tm} {d : Nat} (h : t.kids[d]? = some k) (r : Tm) : r.size ≤ (t.put d r).size := by
  cases t with
  | v i => simp [Tm.kids] at h
  | k b => simp [Tm.kids] at h
  | u b t => simp only [Tm.put, Tm.size]; omega
  | p b s t => simp only [Tm.put]; split <;> simp only [Tm.size] <;> omega

theorem kid_size {t k : Tm} {d : Nat} (h : t.kids[d]? = some k) : k.size < t.size := by
  cases t with
  | v i => simp [Tm.kids] at h
  | k b => simp [Tm.kids] at h
  | u b t =>
    match d, h with
    | 0, h => simp [Tm.kids] at h; subst h; simp only [Tm.size]; omega
  | p b s t =>
    match d, h with
    | 0, h => simp [Tm.kids] at h; subst h; simp only [Tm.size]; omega
    | 1, h => simp [Tm.kids] at h; subst h; simp only [Tm.size]; omega

theorem Tm.kids_le (t : Tm) : t.kids.length ≤ 2 := by cases t <;> simp [Tm.kids]

/-- A term that is no variable: its symbol; its parts, one by one. -/
def Tm.sym : Tm → Int
  | .v i => vI i
  | .k b => kI b
  | .u b _ => uI b
  | .p b _ _ => pI b

theorem IsT.split {S : Nat → Prop} {w : World} {t : Tm} {x : Value} (h : IsT S w t x) (hv : t.isV = false) :
    ∃ p cap xs, x = tC t.sym (.slice p t.kids.length cap) ∧ (t.kids = [] → p = none ∧ cap = 0) ∧ (∀ a, p = some a → a.spot = none ∧ S a.block ∧ ∀ j u, xs[j]? = some u → w.cell? ⟨a.block, a.off + j, none⟩ = some u) ∧ (t.kids ≠ [] → p ≠ none) ∧ AllT S w t.kids xs := by
  cases t with
  | v i => simp [Tm.isV] at hv
  | k b => obtain rfl : x = tC (kI b) (.slice none 0 0) := h; exact ⟨none, 0, [], rfl, fun _ => ⟨rfl, rfl⟩, (fun a h => by cases h), (fun h => absurd rfl h), trivial⟩
  | u b t =>
    obtain ⟨a, o, cap, y, rfl, hS, hc, ht⟩ := h
    refine ⟨_, cap, [y], rfl, (fun h => by cases h), ?_, (fun _ h => by cases h), ht, trivial⟩
    rintro _ ⟨⟩
    refine ⟨rfl, hS, fun j u hj => ?_⟩
    match j, hj with
    | 0, hj => simp at hj; subst hj; exact hc
  | p b s t =>
    obtain ⟨a, o, cap, y, z, rfl, hS, hc, hd, hs, ht⟩ := h
    refine ⟨_, cap, [y, z], rfl, (fun h => by cases h), ?_, (fun _ h => by cases h), hs, ht, trivial⟩
    rintro _ ⟨⟩
    refine ⟨rfl, hS, fun j u hj => ?_⟩
    match j, hj with
    | 0, hj => simp at hj; subst hj; exact hc
    | 1, hj => simp at hj; subst hj; exact hd

/-- A compound made anew of parts. -/
theorem IsT.made {S : Nat → Prop} {w : World} {t r k : Tm} {d : Nat} {xs : List Value} {y : Value} {g cap : Nat} (hk : t.kids[d]? = some k) (ha : AllT S w t.kids xs) (hr : IsT S w r y) (hg : S g)
    (hc : ∀ j u, (xs.set d y)[j]? = some u → w.cell? ⟨g, j, none⟩ = some u) : IsT S w (t.put d r) (tC t.sym (.slice (some ⟨g, 0, none⟩) t.kids.length cap)) := by
  cases t with
  | v i => simp [Tm.kids] at hk
  | k b => simp [Tm.kids] at hk
  | u b t =>
    match d, hk, xs, ha with
    | 0, hk, [x], ha => exact ⟨g, 0, cap, y, rfl, hg, hc 0 y rfl, hr⟩
  | p b s t =>
    match d, hk, xs, ha with
    | 0, hk, [x, z], ha => exact ⟨g, 0, cap, y, z, rfl, hg, hc 0 y rfl, hc 1 z rfl, hr, ha.2.1⟩
    | 1, hk, [x, z], ha => exact ⟨g, 0, cap, x, y, rfl, hg, hc 0 x rfl, hc 1 y rfl, ha.1, hr⟩

theorem IsT.one {S : Nat → Prop} {w : World} {t : Tm} {x : Value} (h : IsT S w t x) : x.oneCell' = true := by
  obtain ⟨T, y, rfl⟩ := h.iface; rfl
theorem AllT.one {S : Nat → Prop} {w : World} : ∀ {ts : List Tm} {xs : List Value}, AllT S w ts xs → ∀ u ∈ xs, u.oneCell' = true
  | [], [], _, u, hu => by cases hu
  | t :: ts, x :: xs, h, u, hu => by
    rcases List.mem_cons.1 hu with rfl | hu
    · exact h.1.one
    · exact h.2.one u hu

end Go.Proofs.YtholmlkjcobkdaaGreat
