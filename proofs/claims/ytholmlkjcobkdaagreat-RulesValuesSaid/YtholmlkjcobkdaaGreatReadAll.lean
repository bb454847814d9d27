/- A string is read as Tm.rd says; 'read' hands back the term, or reports an error. -/
import Derived.Test.YtholmlkjcobkdaaGreatRead
namespace Go.Proofs.YtholmlkjcobkdaaGreat
set_option linter.all false
set_option linter.unusedSimpArgs false
set_option linter.unusedVariables false
open Go.RowKit
set_option maxRecDepth 100000

theorem hd_cons (c : UInt8) (l : List UInt8) (k : UInt8) : (hd (c :: l) = (k.toNat : Int)) ↔ c = k := by
  simp only [hd, Int.natCast_inj]
  exact UInt8.toNat_inj

theorem hd_nil (k : UInt8) (hk : k ≠ 0) : ¬ hd [] = (k.toNat : Int) := by
  intro h
  apply hk
  have : (0 : Int) = (k.toNat : Int) := h
  have h0 : k.toNat = (0 : UInt8).toNat := by simp; omega
  exact UInt8.toNat_inj.1 h0

theorem unary_cons (b : Bool) (c : UInt8) (l : List UInt8) (o : Option (Tm × List UInt8 × Nat)) :
    unary b (c :: l) o = if c = 40 then (match o with | some (t, d :: l, n) => if d = 41 then some (.u b t, l, n) else none | _ => none) else none := by
  unfold unary
  by_cases hc : c = 40
  · rw [if_pos (show hd (c :: l) = 40 from (hd_cons c l 40).2 hc), if_pos hc]
    match o with
    | none => rfl
    | some (t, [], n) => simp only [if_neg (show ¬ hd [] = 41 from hd_nil 41 (by decide))]
    | some (t, d :: l, n) =>
      by_cases hd' : d = 41
      · simp only [if_pos (show hd (d :: l) = 41 from (hd_cons d l 41).2 hd'), if_pos hd', List.tail_cons]
      · simp only [if_neg (show ¬ hd (d :: l) = 41 from fun h => hd' ((hd_cons d l 41).1 h)), if_neg hd']
  · rw [if_neg (show ¬ hd (c :: l) = 40 from fun h => hc ((hd_cons c l 40).1 h)), if_neg hc]

theorem binary_cons (b : Bool) (c : UInt8) (l : List UInt8) (o : Option (Tm × List UInt8 × Nat)) (o2 : List UInt8 → Nat → Option (Tm × List UInt8 × Nat)) :
    binary b (c :: l) o o2 = if c = 40 then (match o with
      | some (s, d :: l, n) => if d = 44 then (match o2 l n with | some (t, d :: l, n) => if d = 41 then some (.p b s t, l, n) else none | _ => none) else none
      | _ => none) else none := by
  unfold binary
  by_cases hc : c = 40
  · rw [if_pos (show hd (c :: l) = 40 from (hd_cons c l 40).2 hc), if_pos hc]
    match o with
    | none => rfl
    | some (t, [], n) => simp only [if_neg (show ¬ hd [] = 44 from hd_nil 44 (by decide))]
    | some (t, d :: l, n) =>
      by_cases hd' : d = 44
      · simp only [if_pos (show hd (d :: l) = 44 from (hd_cons d l 44).2 hd'), if_pos hd', List.tail_cons]
        match o2 l n with
        | none => rfl
        | some (t, [], n) => simp only [if_neg (show ¬ hd [] = 41 from hd_nil 41 (by decide))]
        | some (t, d :: l, n) =>
          by_cases hd'' : d = 41
          · simp only [if_pos (show hd (d :: l) = 41 from (hd_cons d l 41).2 hd''), if_pos hd'', List.tail_cons]
          · simp only [if_neg (show ¬ hd (d :: l) = 41 from fun h => hd'' ((hd_cons d l 41).1 h)), if_neg hd'']
      · simp only [if_neg (show ¬ hd (d :: l) = 44 from fun h => hd' ((hd_cons d l 44).1 h)), if_neg hd']
  · rw [if_neg (show ¬ hd (c :: l) = 40 from fun h => hc ((hd_cons c l 40).1 h)), if_neg hc]

theorem rd_size : ∀ (f : Nat) (l : List UInt8) (n : Nat) (t : Tm) (l' : List UInt8) (n' : Nat), Tm.rd f l n = some (t, l', n') → n' = n + t.size ∧ n' ≤ 60 := by
  intro f
  induction f with
  | zero => intro l n t l' n' h; simp [Tm.rd] at h
  | succ f ih =>
    intro l n t l' n' h
    unfold Tm.rd at h
    by_cases hn : 60 ≤ n
    · rw [if_pos hn] at h; cases h
    rw [if_neg hn] at h
    match l, h with
    | [], h => cases h
    | c :: l, h =>
      simp only at h
      split at h
      · cases h; simp [Tm.size]; omega
      split at h
      · cases h; simp [Tm.size]; omega
      split at h
      · cases h; simp [Tm.size]; omega
      split at h
      · cases h; simp [Tm.size]; omega
      split at h
      · cases h; simp [Tm.size]; omega
      split at h
      · split at h
        · cases h
        · split at h
          · split at h
            · rename_i d l0 _ _ s d' l1 n1 hr
              split at h
              · cases h
                have := ih _ _ _ _ _ hr
                simp only [Tm.size]; omega
              · cases h
            · cases h
          · cases h
      split at h
      · split at h
        · cases h
        · split at h
          · split at h
            · rename_i s d' l1 n1 hr
              split at h
              · split at h
                · rename_i t2 d2 l2 n2 hr2
                  split at h
                  · cases h
                    have := ih _ _ _ _ _ hr
                    have := ih _ _ _ _ _ hr2
                    simp only [Tm.size]; omega
                  · cases h
                · cases h
              · cases h
            · cases h
          · cases h
      · cases h

theorem term_any (R : Nat) : ∀ (f : Nat) (l : List UInt8) (n : Nat) (w : World), Rd w R l n → 61 ≤ n + f → n ≤ 100 →
    Calls Tryz.prog 119 #[.pointer (some ⟨R, 0, none⟩)] w (Reads R w (Tm.rd f l n)) := by
  intro f
  induction f with
  | zero => intro l n w h hf hn; exact term_full R l n w h (by omega) hn
  | succ f ih =>
    intro l n w h hf hn
    by_cases h60 : 60 ≤ n
    · have e : Tm.rd (f + 1) l n = none := by unfold Tm.rd; rw [if_pos h60]
      rw [e]; exact term_full R l n w h h60 hn
    have hn' : n < 60 := by omega
    match l, h with
    | [], h =>
      have e : Tm.rd (f + 1) [] n = none := by unfold Tm.rd; rw [if_neg h60]
      rw [e]; exact term_bad R [] n w h hn' (.inl (by decide))
    | c :: l, h =>
      have hT : ∀ k : UInt8, c = k → hd (c :: l) = (k.toNat : Int) := fun k e => (hd_cons c l k).2 e
      have hF : ∀ k : UInt8, ¬ c = k → hd (c :: l) ≠ (k.toNat : Int) := fun k e h => e ((hd_cons c l k).1 h)
      by_cases h1 : c = 120
      · have e : Tm.rd (f + 1) (c :: l) n = some (.v 0, l, n + 1) := by unfold Tm.rd; rw [if_neg h60]; simp only [if_pos h1]
        rw [e]; exact term_var R (c :: l) n w h hn' (by rw [hT _ h1]; decide) (by rw [hT _ h1]; decide) 0 (hT _ h1)
      by_cases h2 : c = 121
      · have e : Tm.rd (f + 1) (c :: l) n = some (.v 1, l, n + 1) := by unfold Tm.rd; rw [if_neg h60]; simp only [if_neg h1, if_pos h2]
        rw [e]; exact term_var R (c :: l) n w h hn' (by rw [hT _ h2]; decide) (by rw [hT _ h2]; decide) 1 (hT _ h2)
      by_cases h3 : c = 122
      · have e : Tm.rd (f + 1) (c :: l) n = some (.v 2, l, n + 1) := by unfold Tm.rd; rw [if_neg h60]; simp only [if_neg h1, if_neg h2, if_pos h3]
        rw [e]; exact term_var R (c :: l) n w h hn' (by rw [hT _ h3]; decide) (by rw [hT _ h3]; decide) 2 (hT _ h3)
      by_cases h4 : c = 97
      · have e : Tm.rd (f + 1) (c :: l) n = some (.k false, l, n + 1) := by unfold Tm.rd; rw [if_neg h60]; simp only [if_neg h1, if_neg h2, if_neg h3, if_pos h4]
        rw [e]; exact term_k R (c :: l) n w h hn' false (hT _ h4) (by rw [hT _ h4]; decide) (by rw [hT _ h4]; decide)
      by_cases h5 : c = 98
      · have e : Tm.rd (f + 1) (c :: l) n = some (.k true, l, n + 1) := by unfold Tm.rd; rw [if_neg h60]; simp only [if_neg h1, if_neg h2, if_neg h3, if_neg h4, if_pos h5]
        rw [e]; exact term_k R (c :: l) n w h hn' true (hT _ h5) (by rw [hT _ h5]; decide) (by rw [hT _ h5]; decide)
      by_cases h6 : c = 99 ∨ c = 100
      · have e : Tm.rd (f + 1) (c :: l) n = unary (c == 100) l (Tm.rd f l.tail (n + 1)) := by
          rw [Tm.rd.eq_def]; simp only [if_neg h60]
          simp only [if_neg h1, if_neg h2, if_neg h3, if_neg h4, if_neg h5, if_pos h6]
          match l with
          | [] => simp only [unary, if_neg (show ¬ hd [] = 40 from hd_nil 40 (by decide))]
          | d :: l => rw [unary_cons]; rfl
        rw [e]
        have hu : hd (c :: l) = uI (c == 100) := by rcases h6 with rfl | rfl <;> rfl
        exact term_u R (c :: l) n w h hn' _ hu (by rw [hu]; unfold uI; split <;> decide) (by rw [hu]; unfold uI; split <;> decide) _ fun w' h' => ih _ _ w' h' (by omega) (by omega)
      by_cases h7 : c = 101 ∨ c = 102
      · have e : Tm.rd (f + 1) (c :: l) n = binary (c == 102) l (Tm.rd f l.tail (n + 1)) (fun l n => Tm.rd f l n) := by
          rw [Tm.rd.eq_def]; simp only [if_neg h60]
          simp only [if_neg h1, if_neg h2, if_neg h3, if_neg h4, if_neg h5, if_neg h6, if_pos h7]
          match l with
          | [] => simp only [binary, if_neg (show ¬ hd [] = 40 from hd_nil 40 (by decide))]
          | d :: l => rw [binary_cons]; rfl
        rw [e]
        have hu : hd (c :: l) = pI (c == 102) := by rcases h7 with rfl | rfl <;> rfl
        refine term_p R (c :: l) n w h hn' _ hu (by rw [hu]; unfold pI; split <;> decide) (by rw [hu]; unfold pI; split <;> decide) _ (fun w' h' => ih _ _ w' h' (by omega) (by omega)) _ ?_
        intro s l' n' w' ho h'
        have := rd_size _ _ _ _ _ _ ho
        exact ih _ _ w' h' (by omega) (by omega)
      · have e : Tm.rd (f + 1) (c :: l) n = none := by
          rw [Tm.rd.eq_def]; simp only [if_neg h60]
          simp only [if_neg h1, if_neg h2, if_neg h3, if_neg h4, if_neg h5, if_neg h6, if_neg h7]
        rw [e]
        refine term_bad R (c :: l) n w h hn' ?_
        simp only [not_or] at h6 h7
        have a1 := hF _ h1; have a2 := hF _ h2; have a3 := hF _ h3; have a4 := hF _ h4; have a5 := hF _ h5
        have a6 := hF _ h6.1; have a7 := hF _ h6.2; have a8 := hF _ h7.1; have a9 := hF _ h7.2
        simp at a1 a2 a3 a4 a5 a6 a7 a8 a9
        omega

end Go.Proofs.YtholmlkjcobkdaaGreat
