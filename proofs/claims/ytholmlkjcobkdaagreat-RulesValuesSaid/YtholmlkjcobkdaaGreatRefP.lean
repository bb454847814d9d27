/- The references' terms are strings: what stands where. No program here. -/
import Derived.Test.YtholmlkjcobkdaaGreatAwake
namespace Go.Proofs.YtholmlkjcobkdaaGreat
set_option linter.all false
set_option linter.unusedSimpArgs false
set_option linter.unusedVariables false
open Go.RowKit
set_option maxRecDepth 100000

/-- How many parts a byte's symbol has; -1: it is no symbol and no variable. -/
def partsC (c : UInt8) : Int :=
  if c = 97 ∨ c = 98 ∨ c = 120 ∨ c = 121 ∨ c = 122 then 0 else if c = 99 ∨ c = 100 then 1 else if c = 101 ∨ c = 102 then 2 else -1

def isVar (c : UInt8) : Bool := decide (120 ≤ c.toNat) && decide (c.toNat ≤ 122)
def isLet (c : UInt8) : Bool := decide (0 ≤ partsC c)

/-- The term that begins a string. -/
def headT : Nat → Str → Option Tm
  | 0, _ => none
  | f + 1, l =>
    match l with
    | [] => none
    | c :: l =>
      if c = 120 then some (.v 0)
      else if c = 121 then some (.v 1)
      else if c = 122 then some (.v 2)
      else if c = 97 then some (.k false)
      else if c = 98 then some (.k true)
      else if c = 99 ∨ c = 100 then
        if l.head? = some 40 then
          match headT f l.tail with
          | some t => if (l.tail.drop t.text.length).head? = some 41 then some (.u (c == 100) t) else none
          | none => none
        else none
      else if c = 101 ∨ c = 102 then
        if l.head? = some 40 then
          match headT f l.tail with
          | some s =>
            if (l.tail.drop s.text.length).head? = some 44 then
              match headT f (l.tail.drop s.text.length).tail with
              | some t => if ((l.tail.drop s.text.length).tail.drop t.text.length).head? = some 41 then some (.p (c == 102) s t) else none
              | none => none
            else none
          | none => none
        else none
      else none

theorem head_split {l : Str} {c : UInt8} (h : l.head? = some c) : l = c :: l.tail := by
  cases l with
  | nil => simp at h
  | cons a l => simp at h; subst h; rfl

theorem take_of_prefix {t : Tm} {l : Str} (h : ∃ r, l = t.text ++ r) : l = t.text ++ l.drop t.text.length := by
  obtain ⟨r, rfl⟩ := h
  simp

theorem headT_text : ∀ (f : Nat) (l : Str) (t : Tm), headT f l = some t → ∃ r, l = t.text ++ r := by
  intro f
  induction f with
  | zero => intro l t h; simp [headT] at h
  | succ f ih =>
    intro l t h
    unfold headT at h
    match l, h with
    | [], h => cases h
    | c :: l, h =>
      simp only at h
      split at h
      · rename_i hc; cases h; subst hc; exact ⟨l, rfl⟩
      split at h
      · rename_i hc; cases h; subst hc; exact ⟨l, rfl⟩
      split at h
      · rename_i hc; cases h; subst hc; exact ⟨l, rfl⟩
      split at h
      · rename_i hc; cases h; subst hc; exact ⟨l, rfl⟩
      split at h
      · rename_i hc; cases h; subst hc; exact ⟨l, rfl⟩
      split at h
      · rename_i hc
        split at h
        · rename_i h40
          split at h
          · rename_i s hs
            split at h
            · rename_i h41
              cases h
              have h1 := take_of_prefix (ih _ _ hs)
              have h2 := head_split h41
              have h3 := head_split h40
              refine ⟨(l.tail.drop s.text.length).tail, ?_⟩
              rw [h3, List.tail_cons]
              conv => lhs; rw [h1, h2]
              rcases hc with rfl | rfl <;> simp [Tm.text, Tm.ub]
            · cases h
          · cases h
        · cases h
      split at h
      · rename_i hc
        split at h
        · rename_i h40
          split at h
          · rename_i s hs
            split at h
            · rename_i h44
              split at h
              · rename_i t' ht'
                split at h
                · rename_i h41
                  cases h
                  have h1 := take_of_prefix (ih _ _ hs)
                  have h2 := head_split h44
                  have h3 := head_split h40
                  have h4 := take_of_prefix (ih _ _ ht')
                  have h5 := head_split h41
                  refine ⟨((l.tail.drop s.text.length).tail.drop t'.text.length).tail, ?_⟩
                  rw [h3, List.tail_cons]
                  conv => lhs; rw [h1, h2, h4, h5]
                  rcases hc with rfl | rfl <;> simp [Tm.text, Tm.pb]
                · cases h
              · cases h
            · cases h
          · cases h
        · cases h
      · cases h

theorem text_headT : ∀ (t : Tm) (f : Nat) (r : Str), t.size ≤ f → headT f (t.text ++ r) = some t := by
  intro t
  induction t with
  | v i =>
    intro f r hf
    obtain ⟨f, rfl⟩ : ∃ g, f = g + 1 := ⟨f - 1, by simp [Tm.size] at hf; omega⟩
    match i with
    | 0 => simp [Tm.text, Tm.vb, headT]
    | 1 => simp [Tm.text, Tm.vb, headT]
    | 2 => simp [Tm.text, Tm.vb, headT]
  | k b =>
    intro f r hf
    obtain ⟨f, rfl⟩ : ∃ g, f = g + 1 := ⟨f - 1, by simp [Tm.size] at hf; omega⟩
    cases b <;> simp [Tm.text, Tm.kb, headT]
  | u b t ih =>
    intro f r hf
    obtain ⟨f, rfl⟩ : ∃ g, f = g + 1 := ⟨f - 1, by simp [Tm.size] at hf; omega⟩
    simp only [Tm.size] at hf
    have h := ih f (41 :: r) (by omega)
    cases b <;> simp [Tm.text, Tm.ub, headT, h]
  | p b s t ihs iht =>
    intro f r hf
    obtain ⟨f, rfl⟩ : ∃ g, f = g + 1 := ⟨f - 1, by simp [Tm.size] at hf; omega⟩
    simp only [Tm.size] at hf
    have h1 := ihs f (44 :: (t.text ++ 41 :: r)) (by omega)
    have h2 := iht f (41 :: r) (by omega)
    cases b <;> simp [Tm.text, Tm.pb, headT, h1, h2]

theorem size_text (t : Tm) : t.size ≤ t.text.length := by
  induction t with
  | v i => simp [Tm.size, Tm.text]
  | k b => simp [Tm.size, Tm.text]
  | u b t ih => simp only [Tm.size, Tm.text, List.length_cons, List.length_append]; omega
  | p b s t ihs iht => simp only [Tm.size, Tm.text, List.length_cons, List.length_append]; omega

/-- The term that begins at a place. -/
def termAt (s : Str) (i : Nat) : Option Tm := headT (s.length + 1) (s.drop i)

theorem termAt_iff {s : Str} {i : Nat} {t : Tm} : termAt s i = some t ↔ ∃ r, s.drop i = t.text ++ r := by
  constructor
  · exact headT_text _ _ _
  · rintro ⟨r, h⟩
    unfold termAt
    rw [h]
    refine text_headT t _ r ?_
    have h1 := size_text t
    have h2 := congrArg List.length h
    simp at h2
    omega

/-- Where the term ends that begins at a place, or -1. -/
def endI (s : Str) (i : Nat) : Int := match termAt s i with
  | some t => ((i + t.text.length : Nat) : Int)
  | none => -1

theorem endI_some {s : Str} {i : Nat} {t : Tm} (h : termAt s i = some t) : endI s i = ((i + t.text.length : Nat) : Int) := by simp [endI, h]
theorem endI_none {s : Str} {i : Nat} (h : termAt s i = none) : endI s i = -1 := by simp [endI, h]

theorem text_pos (t : Tm) : 0 < t.text.length := by have := size_text t; have := t.size_pos; omega

theorem termAt_end {s : Str} {i : Nat} {t : Tm} (h : termAt s i = some t) : i + t.text.length ≤ s.length := by
  obtain ⟨r, hr⟩ := termAt_iff.1 h
  have h1 := congrArg List.length hr
  have h2 := text_pos t
  simp at h1
  omega

theorem drop_cons {s : Str} {i : Nat} {c : UInt8} (h : s[i]? = some c) : s.drop i = c :: s.drop (i + 1) := by
  obtain ⟨hi, hc⟩ := List.getElem?_eq_some_iff.1 h
  rw [← List.getElem_cons_drop hi, hc]

theorem termAt_none {s : Str} {i : Nat} (h : ∀ t r, s.drop i = Tm.text t ++ r → False) : termAt s i = none := by
  cases ht : termAt s i with
  | none => rfl
  | some t =>
    obtain ⟨r, hr⟩ := termAt_iff.1 ht
    exact (h t r hr).elim

/-- The first byte of a term's text. -/
theorem text_head (t : Tm) : ∃ r, t.text = t.symB :: r := by cases t <;> exact ⟨_, rfl⟩

theorem symB_parts (t : Tm) : partsC t.symB = (t.kids.length : Int) := by
  cases t with
  | v i => revert i; decide
  | k b => revert b; decide
  | u b t => show partsC (Tm.ub b) = 1; revert b; decide
  | p b s t => show partsC (Tm.pb b) = 2; revert b; decide

theorem end_out {s : Str} {i : Nat} (h : s[i]? = none) : termAt s i = none := by
  refine termAt_none fun t r hr => ?_
  rw [List.drop_eq_nil_of_le (by simpa using h)] at hr
  obtain ⟨q, hq⟩ := text_head t
  rw [hq] at hr; cases hr

theorem at_head {s : Str} {i : Nat} {c : UInt8} {t : Tm} {r : Str} (h : s[i]? = some c) (ht : s.drop i = t.text ++ r) : c = t.symB := by
  rw [drop_cons h] at ht
  obtain ⟨q, hq⟩ := text_head t
  rw [hq] at ht
  exact (List.cons.inj ht).1

theorem end_bad {s : Str} {i : Nat} {c : UInt8} (h : s[i]? = some c) (hc : isLet c = false) : termAt s i = none := by
  refine termAt_none fun t r hr => ?_
  rw [at_head h hr] at hc
  simp only [isLet, symB_parts, decide_eq_false_iff_not] at hc
  omega

/-- A symbol or variable without parts. -/
theorem end_zero {s : Str} {i : Nat} {c : UInt8} (h : s[i]? = some c) (hc : partsC c = 0) : ∃ t, termAt s i = some t ∧ t.text = [c] := by
  have : c = 97 ∨ c = 98 ∨ c = 120 ∨ c = 121 ∨ c = 122 := by
    unfold partsC at hc
    by_cases h1 : c = 97 ∨ c = 98 ∨ c = 120 ∨ c = 121 ∨ c = 122
    · exact h1
    · rw [if_neg h1] at hc
      split at hc
      · cases hc
      · split at hc <;> cases hc
  rcases this with rfl | rfl | rfl | rfl | rfl
  · exact ⟨.k false, termAt_iff.2 ⟨_, drop_cons h⟩, rfl⟩
  · exact ⟨.k true, termAt_iff.2 ⟨_, drop_cons h⟩, rfl⟩
  · exact ⟨.v 0, termAt_iff.2 ⟨_, drop_cons h⟩, rfl⟩
  · exact ⟨.v 1, termAt_iff.2 ⟨_, drop_cons h⟩, rfl⟩
  · exact ⟨.v 2, termAt_iff.2 ⟨_, drop_cons h⟩, rfl⟩

theorem parts_one {c : UInt8} (h : partsC c = 1) : ∃ b, c = Tm.ub b := by
  unfold partsC at h
  split at h
  · cases h
  · split at h
    · rename_i h1
      rcases h1 with rfl | rfl
      · exact ⟨false, rfl⟩
      · exact ⟨true, rfl⟩
    · split at h <;> cases h
theorem parts_two {c : UInt8} (h : partsC c = 2) : ∃ b, c = Tm.pb b := by
  unfold partsC at h
  split at h
  · cases h
  · split at h
    · cases h
    · split at h
      · rename_i h1
        rcases h1 with rfl | rfl
        · exact ⟨false, rfl⟩
        · exact ⟨true, rfl⟩
      · cases h

theorem parts_cases (c : UInt8) : partsC c = -1 ∨ partsC c = 0 ∨ partsC c = 1 ∨ partsC c = 2 := by
  unfold partsC
  split
  · exact .inr (.inl rfl)
  · split
    · exact .inr (.inr (.inl rfl))
    · split
      · exact .inr (.inr (.inr rfl))
      · exact .inl rfl

theorem termAt_drop {s : Str} {i : Nat} {t : Tm} (h : termAt s i = some t) : s.drop i = t.text ++ s.drop (i + t.text.length) := by
  have h1 := take_of_prefix (termAt_iff.1 h)
  rw [List.drop_drop] at h1
  exact h1

/-- What a term with one part is. -/
theorem end_one {s : Str} {i : Nat} {b : Bool} (h : s[i]? = some (Tm.ub b)) (t : Tm) : termAt s i = some t ↔ s[i + 1]? = some 40 ∧ ∃ r, termAt s (i + 2) = some r ∧ s[i + 2 + r.text.length]? = some 41 ∧ t = .u b r := by
  constructor
  · intro ht
    obtain ⟨q, hq⟩ := termAt_iff.1 ht
    have hs := at_head h hq
    cases t with
    | v j => exact absurd hs.symm (Tm.vb_ub _ _)
    | k c => exact absurd hs.symm (Tm.kb_ub _ _)
    | p c t1 t2 => exact absurd hs (Tm.ub_pb _ _)
    | u c r =>
      obtain rfl : b = c := Tm.ub_inj _ _ hs
      simp only [Tm.text, List.cons_append, List.append_assoc, List.nil_append] at hq
      have h0 : ∀ n, s[i + n]? = (s.drop i)[n]? := fun n => by rw [List.getElem?_drop]
      have h2 : s.drop (i + 2) = r.text ++ 41 :: q := by rw [← List.drop_drop, hq]; rfl
      refine ⟨by rw [h0, hq]; rfl, r, termAt_iff.2 ⟨_, h2⟩, ?_, rfl⟩
      rw [show s[i + 2 + r.text.length]? = (s.drop (i + 2))[r.text.length]? by rw [List.getElem?_drop], h2]
      simp
  · rintro ⟨h1, r, hr, h2, rfl⟩
    refine termAt_iff.2 ⟨s.drop (i + 2 + r.text.length + 1), ?_⟩
    rw [drop_cons h, drop_cons h1, termAt_drop hr, drop_cons h2]
    simp [Tm.text]

theorem end_two {s : Str} {i : Nat} {b : Bool} (h : s[i]? = some (Tm.pb b)) (t : Tm) : termAt s i = some t ↔ s[i + 1]? = some 40 ∧ ∃ r1, termAt s (i + 2) = some r1 ∧ s[i + 2 + r1.text.length]? = some 44 ∧
    ∃ r2, termAt s (i + 2 + r1.text.length + 1) = some r2 ∧ s[i + 2 + r1.text.length + 1 + r2.text.length]? = some 41 ∧ t = .p b r1 r2 := by
  constructor
  · intro ht
    obtain ⟨q, hq⟩ := termAt_iff.1 ht
    have hs := at_head h hq
    cases t with
    | v j => exact absurd hs.symm (Tm.vb_pb _ _)
    | k c => exact absurd hs.symm (Tm.kb_pb _ _)
    | u c t => exact absurd hs.symm (Tm.ub_pb _ _)
    | p c r1 r2 =>
      obtain rfl : b = c := Tm.pb_inj _ _ hs
      simp only [Tm.text, List.cons_append, List.append_assoc, List.nil_append] at hq
      have h0 : ∀ n, s[i + n]? = (s.drop i)[n]? := fun n => by rw [List.getElem?_drop]
      have h2 : s.drop (i + 2) = r1.text ++ 44 :: (r2.text ++ 41 :: q) := by rw [← List.drop_drop, hq]; rfl
      have h3 : s.drop (i + 2 + r1.text.length + 1) = r2.text ++ 41 :: q := by
        rw [show i + 2 + r1.text.length + 1 = (i + 2) + (r1.text.length + 1) by omega, ← List.drop_drop, h2]
        simp
      refine ⟨by rw [h0, hq]; rfl, r1, termAt_iff.2 ⟨_, h2⟩, ?_, r2, termAt_iff.2 ⟨_, h3⟩, ?_, rfl⟩
      · rw [show s[i + 2 + r1.text.length]? = (s.drop (i + 2))[r1.text.length]? by rw [List.getElem?_drop], h2]
        simp
      · rw [show s[i + 2 + r1.text.length + 1 + r2.text.length]? = (s.drop (i + 2 + r1.text.length + 1))[r2.text.length]? by rw [List.getElem?_drop], h3]
        simp
  · rintro ⟨h1, r1, hr1, h2, r2, hr2, h3, rfl⟩
    refine termAt_iff.2 ⟨s.drop (i + 2 + r1.text.length + 1 + r2.text.length + 1), ?_⟩
    rw [drop_cons h, drop_cons h1, termAt_drop hr1, drop_cons h2, termAt_drop hr2, drop_cons h3]
    simp [Tm.text]

/-- How many symbols and variables a string holds. -/
def lets (s : Str) : Nat := s.countP isLet

theorem lets_text (t : Tm) : lets t.text = t.size := by
  induction t with
  | v i => show List.countP isLet [Tm.vb i] = 1; revert i; decide
  | k b => show List.countP isLet [Tm.kb b] = 1; revert b; decide
  | u b t ih =>
    have h1 : isLet (Tm.ub b) = true := by revert b; decide
    unfold lets at ih ⊢
    simp only [Tm.text, Tm.size, List.countP_cons, List.countP_append, List.countP_nil, h1, ih]
    simp [show isLet 40 = false by decide, show isLet 41 = false by decide]
  | p b s t ihs iht =>
    have h1 : isLet (Tm.pb b) = true := by revert b; decide
    unfold lets at ihs iht ⊢
    simp only [Tm.text, Tm.size, List.countP_cons, List.countP_append, List.countP_nil, h1, ihs, iht]
    simp [show isLet 40 = false by decide, show isLet 41 = false by decide, show isLet 44 = false by decide]

/-- Whether a string is a term, by the references' test. -/
theorem isTerm_iff (s : Str) : (decide (endI s 0 = (s.length : Int)) && decide (lets s ≤ 60)) = (Tm.parse s).isSome := by
  cases ht : termAt s 0 with
  | none =>
    rw [endI_none ht, decide_eq_false (by omega), Bool.false_and]
    cases hp : Tm.parse s with
    | none => rfl
    | some t =>
      obtain ⟨rfl, -⟩ := (Tm.parse_iff _ _).1 hp
      rw [(termAt_iff (t := t)).2 ⟨[], by simp⟩] at ht; cases ht
  | some t =>
    have h1 := termAt_drop ht
    rw [endI_some ht]
    simp only [Nat.zero_add, List.drop_zero] at h1 ⊢
    by_cases hl : t.text.length = s.length
    · have h2 : s = t.text := by rw [hl, List.drop_length, List.append_nil] at h1; exact h1
      rw [decide_eq_true (by omega), Bool.true_and]
      subst h2
      rw [lets_text]
      by_cases h60 : t.size ≤ 60
      · rw [decide_eq_true h60, (Tm.parse_iff _ _).2 ⟨rfl, h60⟩]; rfl
      · rw [decide_eq_false h60]
        cases hp : Tm.parse t.text with
        | none => rfl
        | some t' =>
          obtain ⟨h3, h4⟩ := (Tm.parse_iff _ _).1 hp
          rw [Tm.text_inj h3] at h60; exact absurd h4 h60
    · rw [decide_eq_false (by omega), Bool.false_and]
      cases hp : Tm.parse s with
      | none => rfl
      | some t' =>
        obtain ⟨h3, h4⟩ := (Tm.parse_iff _ _).1 hp
        have h5 : termAt s 0 = some t' := termAt_iff.2 ⟨[], by simp [h3]⟩
        rw [ht] at h5; cases h5
        exact absurd (by rw [h3]) hl

end Go.Proofs.YtholmlkjcobkdaaGreat
