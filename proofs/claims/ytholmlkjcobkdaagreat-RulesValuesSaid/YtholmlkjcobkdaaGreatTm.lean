/- Terms as plain data: what a term is, its text, how a text is read, what a substitution does. No program here. -/
namespace Go.Proofs.YtholmlkjcobkdaaGreat
set_option linter.all false
set_option linter.unusedSimpArgs false
set_option linter.unusedVariables false

/-- A term: a variable (0, 1, 2 for x, y, z), a or b, c or d with a part, e or f with two parts. -/
inductive Tm where
  | v (i : Fin 3)
  | k (b : Bool)
  | u (b : Bool) (t : Tm)
  | p (b : Bool) (s t : Tm)

namespace Tm

def vb (i : Fin 3) : UInt8 := UInt8.ofNat (120 + i.val)
def kb (b : Bool) : UInt8 := if b then 98 else 97
def ub (b : Bool) : UInt8 := if b then 100 else 99
def pb (b : Bool) : UInt8 := if b then 102 else 101

def size : Tm → Nat
  | v _ => 1
  | k _ => 1
  | u _ t => t.size + 1
  | p _ s t => s.size + t.size + 1

def text : Tm → List UInt8
  | v i => [vb i]
  | k b => [kb b]
  | u b t => ub b :: 40 :: (t.text ++ [41])
  | p b s t => pb b :: 40 :: (s.text ++ 44 :: (t.text ++ [41]))

def isV : Tm → Bool
  | v _ => true
  | _ => false

theorem size_pos (t : Tm) : 1 ≤ t.size := by cases t <;> simp [size]

/-- What follows a byte, read as a term: the term, what is left, the number of symbols and variables so far (at most 60). -/
def rd : Nat → List UInt8 → Nat → Option (Tm × List UInt8 × Nat)
  | 0, _, _ => none
  | f + 1, l, n =>
    if 60 ≤ n then none else
    match l with
    | [] => none
    | c :: l =>
      if c = 120 then some (v 0, l, n + 1)
      else if c = 121 then some (v 1, l, n + 1)
      else if c = 122 then some (v 2, l, n + 1)
      else if c = 97 then some (k false, l, n + 1)
      else if c = 98 then some (k true, l, n + 1)
      else if c = 99 ∨ c = 100 then
        match l with
        | [] => none
        | d :: l =>
          if d = 40 then
            match rd f l (n + 1) with
            | some (t, d :: l, n) => if d = 41 then some (u (c == 100) t, l, n) else none
            | _ => none
          else none
      else if c = 101 ∨ c = 102 then
        match l with
        | [] => none
        | d :: l =>
          if d = 40 then
            match rd f l (n + 1) with
            | some (s, d :: l, n) =>
              if d = 44 then
                match rd f l n with
                | some (t, d :: l, n) => if d = 41 then some (p (c == 102) s t, l, n) else none
                | _ => none
              else none
            | _ => none
          else none
      else none

/-- The term that a string is. -/
def parse (l : List UInt8) : Option Tm :=
  match rd 61 l 0 with
  | some (t, [], _) => some t
  | _ => none

theorem vb_inj : ∀ i j, vb i = vb j → i = j := by decide
theorem kb_inj : ∀ i j, kb i = kb j → i = j := by decide
theorem ub_inj : ∀ i j, ub i = ub j → i = j := by decide
theorem pb_inj : ∀ i j, pb i = pb j → i = j := by decide
theorem vb_kb : ∀ i j, vb i ≠ kb j := by decide
theorem vb_ub : ∀ i j, vb i ≠ ub j := by decide
theorem vb_pb : ∀ i j, vb i ≠ pb j := by decide
theorem kb_ub : ∀ i j, kb i ≠ ub j := by decide
theorem kb_pb : ∀ i j, kb i ≠ pb j := by decide
theorem ub_pb : ∀ i j, ub i ≠ pb j := by decide

/-- No term's text begins another one's. -/
theorem text_cut : ∀ (s t : Tm) (r r' : List UInt8), s.text ++ r = t.text ++ r' → s = t ∧ r = r' := by
  intro s
  induction s with
  | v i =>
    intro t r r' h
    cases t with
    | v j => simp only [text, List.cons_append, List.nil_append, List.cons.injEq] at h; exact ⟨by rw [vb_inj _ _ h.1], h.2⟩
    | k b => simp only [text, List.cons_append, List.nil_append, List.cons.injEq] at h; exact absurd h.1 (vb_kb _ _)
    | u b t => simp only [text, List.cons_append, List.nil_append, List.cons.injEq] at h; exact absurd h.1 (vb_ub _ _)
    | p b s t => simp only [text, List.cons_append, List.nil_append, List.cons.injEq] at h; exact absurd h.1 (vb_pb _ _)
  | k b =>
    intro t r r' h
    cases t with
    | v j => simp only [text, List.cons_append, List.nil_append, List.cons.injEq] at h; exact absurd h.1.symm (vb_kb _ _)
    | k b => simp only [text, List.cons_append, List.nil_append, List.cons.injEq] at h; exact ⟨by rw [kb_inj _ _ h.1], h.2⟩
    | u b t => simp only [text, List.cons_append, List.nil_append, List.cons.injEq] at h; exact absurd h.1 (kb_ub _ _)
    | p b s t => simp only [text, List.cons_append, List.nil_append, List.cons.injEq] at h; exact absurd h.1 (kb_pb _ _)
  | u b s ih =>
    intro t r r' h
    cases t with
    | v j => simp only [text, List.cons_append, List.nil_append, List.cons.injEq] at h; exact absurd h.1.symm (vb_ub _ _)
    | k b => simp only [text, List.cons_append, List.nil_append, List.cons.injEq] at h; exact absurd h.1.symm (kb_ub _ _)
    | u b' t =>
      simp only [text, List.cons_append, List.append_assoc, List.nil_append, List.cons.injEq, true_and] at h
      obtain ⟨h1, h2⟩ := ih t _ _ h.2
      rw [ub_inj _ _ h.1, h1]
      exact ⟨rfl, by simpa using h2⟩
    | p b s t => simp only [text, List.cons_append, List.nil_append, List.cons.injEq] at h; exact absurd h.1 (ub_pb _ _)
  | p b s1 s2 ih1 ih2 =>
    intro t r r' h
    cases t with
    | v j => simp only [text, List.cons_append, List.nil_append, List.cons.injEq] at h; exact absurd h.1.symm (vb_pb _ _)
    | k b => simp only [text, List.cons_append, List.nil_append, List.cons.injEq] at h; exact absurd h.1.symm (kb_pb _ _)
    | u b' t => simp only [text, List.cons_append, List.nil_append, List.cons.injEq] at h; exact absurd h.1.symm (ub_pb _ _)
    | p b' t1 t2 =>
      simp only [text, List.cons_append, List.append_assoc, List.nil_append, List.cons.injEq, true_and] at h
      obtain ⟨h1, h2⟩ := ih1 t1 _ _ h.2
      simp only [List.cons.injEq, true_and] at h2
      obtain ⟨h3, h4⟩ := ih2 t2 _ _ h2
      rw [pb_inj _ _ h.1, h1, h3]
      exact ⟨rfl, by simpa using h4⟩

theorem text_inj {s t : Tm} (h : s.text = t.text) : s = t := (text_cut s t [] [] (by rw [h])).1

instance : DecidableEq Tm := fun s t => decidable_of_iff (s.text = t.text) ⟨text_inj, fun h => by rw [h]⟩

/-- What is read is the text of the term. -/
theorem rd_text : ∀ (f : Nat) (l : List UInt8) (n : Nat) (t : Tm) (l' : List UInt8) (n' : Nat), rd f l n = some (t, l', n') → l = t.text ++ l' ∧ n' = n + t.size ∧ n' ≤ 60 := by
  intro f
  induction f with
  | zero => intro l n t l' n' h; simp [rd] at h
  | succ f ih =>
    intro l n t l' n' h
    unfold rd at h
    by_cases hn : 60 ≤ n
    · rw [if_pos hn] at h; cases h
    rw [if_neg hn] at h
    match l, h with
    | [], h => cases h
    | c :: l, h =>
      simp only at h
      split at h
      · rename_i hc; cases h; subst hc; exact ⟨rfl, rfl, by omega⟩
      split at h
      · rename_i hc; cases h; subst hc; exact ⟨rfl, rfl, by omega⟩
      split at h
      · rename_i hc; cases h; subst hc; exact ⟨rfl, rfl, by omega⟩
      split at h
      · rename_i hc; cases h; subst hc; exact ⟨rfl, rfl, by omega⟩
      split at h
      · rename_i hc; cases h; subst hc; exact ⟨rfl, rfl, by omega⟩
      split at h
      · rename_i hc
        split at h
        · cases h
        · split at h
          · rename_i hd
            split at h
            · rename_i s d' l1 n1 hr
              split at h
              · rename_i hd'
                cases h
                obtain ⟨h1, h2, h3⟩ := ih _ _ _ _ _ hr
                subst hd; subst hd'
                refine ⟨?_, by simp only [size]; omega, h3⟩
                rw [h1]
                rcases hc with rfl | rfl <;> simp [text, ub]
              · cases h
            · cases h
          · cases h
      split at h
      · rename_i hc
        split at h
        · cases h
        · split at h
          · rename_i hd
            split at h
            · rename_i s d' l1 n1 hr
              split at h
              · rename_i hd'
                split at h
                · rename_i t2 d2 l2 n2 hr2
                  split at h
                  · rename_i hd2
                    cases h
                    obtain ⟨h1, h2, h3⟩ := ih _ _ _ _ _ hr
                    obtain ⟨h4, h5, h6⟩ := ih _ _ _ _ _ hr2
                    subst hd; subst hd'; subst hd2
                    refine ⟨?_, by simp only [size]; omega, h6⟩
                    rw [h1, h4]
                    rcases hc with rfl | rfl <;> simp [text, pb]
                  · cases h
                · cases h
              · cases h
            · cases h
          · cases h
      · cases h

/-- The text of a term is read. -/
theorem text_rd : ∀ (t : Tm) (f : Nat) (l : List UInt8) (n : Nat), n + t.size ≤ 60 → t.size ≤ f → rd f (t.text ++ l) n = some (t, l, n + t.size) := by
  intro t
  induction t with
  | v i =>
    intro f l n hn hf
    obtain ⟨f, rfl⟩ : ∃ g, f = g + 1 := ⟨f - 1, by simp [size] at hf; omega⟩
    rw [rd.eq_def]
    simp only [size] at hn
    simp only [if_neg (show ¬ 60 ≤ n by omega), text, List.cons_append, List.nil_append, size]
    match i with
    | 0 => simp [vb]
    | 1 => simp [vb]
    | 2 => simp [vb]
  | k b =>
    intro f l n hn hf
    obtain ⟨f, rfl⟩ : ∃ g, f = g + 1 := ⟨f - 1, by simp [size] at hf; omega⟩
    rw [rd.eq_def]
    simp only [size] at hn
    simp only [if_neg (show ¬ 60 ≤ n by omega), text, List.cons_append, List.nil_append, size]
    cases b <;> simp [kb]
  | u b t ih =>
    intro f l n hn hf
    obtain ⟨f, rfl⟩ : ∃ g, f = g + 1 := ⟨f - 1, by simp [size] at hf; omega⟩
    rw [rd.eq_def]
    simp only [size] at hn hf
    have := ih f (41 :: l) (n + 1) (by omega) (by omega)
    simp only [if_neg (show ¬ 60 ≤ n by omega), text, List.cons_append, List.append_assoc, List.nil_append, size]
    cases b <;> (simp [ub, this]; omega)
  | p b s t ih1 ih2 =>
    intro f l n hn hf
    obtain ⟨f, rfl⟩ : ∃ g, f = g + 1 := ⟨f - 1, by simp [size] at hf; omega⟩
    rw [rd.eq_def]
    simp only [size] at hn hf
    have h1 := ih1 f (44 :: (t.text ++ 41 :: l)) (n + 1) (by omega) (by omega)
    have h2 := ih2 f (41 :: l) (n + 1 + s.size) (by omega) (by omega)
    simp only [if_neg (show ¬ 60 ≤ n by omega), text, List.cons_append, List.append_assoc, List.nil_append, size]
    cases b <;> (simp [pb, h1, h2]; omega)

theorem parse_iff (l : List UInt8) (t : Tm) : parse l = some t ↔ l = t.text ∧ t.size ≤ 60 := by
  constructor
  · intro h
    unfold parse at h
    split at h
    · rename_i u n hr
      cases h
      obtain ⟨h1, h2, h3⟩ := rd_text _ _ _ _ _ _ hr
      exact ⟨by simpa using h1, by omega⟩
    · cases h
  · rintro ⟨rfl, h⟩
    have := text_rd t 61 [] 0 (by omega) (by omega)
    unfold parse
    rw [List.append_nil] at this
    rw [this]

theorem parse_text {t : Tm} (h : t.size ≤ 60) : parse t.text = some t := (parse_iff _ _).2 ⟨rfl, h⟩

end Tm
end Go.Proofs.YtholmlkjcobkdaaGreat
