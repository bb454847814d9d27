/- The references' small functions on strings. -/
import Derived.Test.YtholmlkjcobkdaaGreatRefP
namespace Go.Proofs.YtholmlkjcobkdaaGreat
set_option linter.all false
set_option linter.unusedSimpArgs false
set_option linter.unusedVariables false
open Go.RowKit
set_option maxRecDepth 100000

theorem variable_any (n : Int) (w : World) : Calls Tryz.prog 74 #[.int .u8 n] w fun e w' => e = .returned (.bool (decide (120 ≤ n) && decide (n ≤ 122))) ∧ w = w' := by
  by_cases h1 : 120 ≤ n
  · by_cases h2 : n ≤ 122
    · go_enter Tryz.func74, Tryz.ntmps74
      go_wp2
      go_ret
      exact ⟨by simp [h1, h2], rfl⟩
    · go_enter Tryz.func74, Tryz.ntmps74
      go_wp2
      go_ret
      exact ⟨by simp [h1, h2], rfl⟩
  · go_enter Tryz.func74, Tryz.ntmps74
    go_wp2
    go_ret
    exact ⟨by simp; omega, rfl⟩

theorem partsN_any (n : Int) (hn : n = 97 ∨ n = 98 ∨ n = 99 ∨ n = 100 ∨ n = 101 ∨ n = 102 ∨ n = 120 ∨ n = 121 ∨ n = 122) (w : World) :
    Calls Tryz.prog 71 #[.int .u8 n] w fun e w' => e = .returned (.int .i64 (if n < 99 then 0 else if n < 101 then 1 else if n < 103 then 2 else 0)) ∧ w = w' := by
  rcases hn with rfl | rfl | rfl | rfl | rfl | rfl | rfl | rfl | rfl
  all_goals
    go_enter Tryz.func71, Tryz.ntmps71
    go_wp2_with ((with_reducible refine (variable_any _ _).mono ?_); rintro e w1 ⟨rfl, rfl⟩)
    go_ret
    exact ⟨rfl, rfl⟩

theorem partsO_any (n : Int) (h1 : ¬ (97 ≤ n ∧ n ≤ 102)) (h2 : ¬ (120 ≤ n ∧ n ≤ 122)) (w : World) :
    Calls Tryz.prog 71 #[.int .u8 n] w fun e w' => e = .returned (.int .i64 (-1)) ∧ w = w' := by
  have g1 : (n == 97) = false := by rw [beq_eq_false_iff_ne]; omega
  have g2 : (n == 98) = false := by rw [beq_eq_false_iff_ne]; omega
  have g3 : (n == 99) = false := by rw [beq_eq_false_iff_ne]; omega
  have g4 : (n == 100) = false := by rw [beq_eq_false_iff_ne]; omega
  have g5 : (n == 101) = false := by rw [beq_eq_false_iff_ne]; omega
  have g6 : (n == 102) = false := by rw [beq_eq_false_iff_ne]; omega
  have hv : ∀ w, Calls Tryz.prog 74 #[.int .u8 n] w fun e w' => e = .returned (.bool false) ∧ w = w' := fun w => (variable_any n w).mono fun e w' h => ⟨by rw [h.1]; congr 2; rw [← Bool.decide_and]; exact decide_eq_false h2, h.2⟩
  have HV := Lib.hid hv
  clear hv h1 h2
  go_enter Tryz.func71, Tryz.ntmps71
  go_wp2_with ((with_reducible refine (HV.out _).mono ?_); rintro e w1 ⟨rfl, rfl⟩)
  go_ret
  exact ⟨rfl, rfl⟩

theorem partsC_any (c : UInt8) (w : World) : Calls Tryz.prog 71 #[.int .u8 (c.toNat : Int)] w fun e w' => e = .returned (.int .i64 (partsC c)) ∧ w = w' := by
  by_cases h : 97 ≤ c.toNat ∧ c.toNat ≤ 102 ∨ 120 ≤ c.toNat ∧ c.toNat ≤ 122
  · refine (partsN_any c.toNat (by omega) w).mono fun e w' hh => ⟨?_, hh.2⟩
    rw [hh.1]
    have hc : c = UInt8.ofNat c.toNat := by simp
    generalize c.toNat = m at h hc
    subst hc
    have : m = 97 ∨ m = 98 ∨ m = 99 ∨ m = 100 ∨ m = 101 ∨ m = 102 ∨ m = 120 ∨ m = 121 ∨ m = 122 := by omega
    rcases this with rfl | rfl | rfl | rfl | rfl | rfl | rfl | rfl | rfl <;> rfl
  · refine (partsO_any c.toNat (by omega) (by omega) w).mono fun e w' hh => ⟨?_, hh.2⟩
    rw [hh.1]
    congr 2
    unfold partsC
    rw [if_neg, if_neg, if_neg]
    all_goals
      intro hh
      apply h
      rcases hh with rfl | rfl | rfl | rfl | rfl <;> decide

theorem letter_any (c : UInt8) (w : World) : Calls Tryz.prog 73 #[.int .u8 (c.toNat : Int)] w fun e w' => e = .returned (.bool (isLet c)) ∧ w = w' := by
  have HP := Lib.hid (partsC_any c w)
  go_enter Tryz.func73, Tryz.ntmps73
  go_wp2_with ((with_reducible refine HP.out.mono ?_); rintro e w1 ⟨rfl, rfl⟩)
  go_ret
  exact ⟨rfl, rfl⟩

theorem index_at (s : Str) (i : Nat) (c : UInt8) (h : s[i]? = some c) (n : Int) (hn : n = i) : ∀ W : World, (Instr.index 9 (.string ⟨s.toArray⟩) (.int .i64 n)).run Tryz.prog W = .ok (.int .u8 (c.toNat : Int)) W := by
  intro W
  subst hn
  obtain ⟨hi, hc⟩ := List.getElem?_eq_some_iff.1 h
  have h1 : (i : Int) < (s.length : Int) := by omega
  have h2 : ({ data := s.toArray } : ByteArray)[i]'(by simpa [ByteArray.size] using hi) = c := hc
  have hu := Tryz.underlying9
  have h3 : ({ data := s.toArray } : ByteArray)[i]? = some c := by
    rw [getElem?_pos ({ data := s.toArray } : ByteArray) i (by simpa [ByteArray.size] using hi), h2]
  simp [Instr.index, run_underlying hu, go_sem, h3]

theorem sizeR_any (s : Str) (w : World) (hs : s.length ≤ 1000000000) : Calls Tryz.prog 26 #[encS s] w fun e w' => e = .returned (.int .i64 (lets s)) ∧ w = w' := by
  unfold encS
  go_enter Tryz.func26, Tryz.ntmps26
  go_wp2_with fail
  go_loopg [3, 4] s.length (fun k n i wr => ∃ d, d + k = s.length ∧ i = .int .i64 d ∧ n = .int .i64 (lets (s.take d)) ∧ w = wr)
  case atStart => exact ⟨0, by simp, rfl, rfl, rfl⟩
  case round =>
    obtain ⟨d, hd, rfl, rfl, rfl⟩ := hrel
    cases gk with
    | zero =>
      obtain rfl : d = s.length := by omega
      go_wp2_with fail
      go_ret
      exact ⟨by rw [List.take_length]; rfl, rfl⟩
    | succ k =>
      have hdl : d < s.length := by omega
      have hdl' : (d : Int) < (s.length : Int) := by omega
      have hd2 : (d : Int) + 1 ≤ 1000000001 := by omega
      obtain ⟨c, hc⟩ : ∃ u, s[d]? = some u := ⟨_, List.getElem?_eq_getElem hdl⟩
      have hix := index_at s d c hc d rfl
      have hle : lets (s.take d) ≤ 1000000000 := by
        have h1 : lets (s.take d) ≤ (s.take d).length := List.countP_le_length
        rw [List.length_take] at h1; omega
      have hle' : ((lets (s.take d) : Nat) : Int) + 1 ≤ 1000000001 := by omega
      have hstep : lets (s.take (d + 1)) = lets (s.take d) + if isLet c then 1 else 0 := by
        unfold lets
        rw [List.take_add_one, hc, List.countP_append]; simp [List.countP_cons]
      have HStep := Lib.hid hstep
      have HL := Lib.hid (letter_any c w)
      clear hstep hc
      generalize lets (s.take d) = m at hle hle' HStep ⊢
      cases hl : isLet c with
      | true =>
        rw [hl] at HL HStep
        clear hl
        go_wp2_with ((with_reducible refine HL.out.mono ?_); clear HL; rintro e w1 ⟨rfl, rfl⟩)
        go_roundg k
        case measure => omega
        case rel => exact ⟨d + 1, by omega, congrArg (Value.int .i64) (by omega), congrArg (Value.int .i64) (by rw [HStep.out]; simp), rfl⟩
      | false =>
        rw [hl] at HL HStep
        clear hl
        go_wp2_with ((with_reducible refine HL.out.mono ?_); clear HL; rintro e w1 ⟨rfl, rfl⟩)
        go_roundg k
        case measure => omega
        case rel => exact ⟨d + 1, by omega, congrArg (Value.int .i64) (by omega), congrArg (Value.int .i64) (by rw [HStep.out]; simp), rfl⟩

def End0 (s : Str) (i : Nat) (w : World) (e : Ending) (w' : World) : Prop := e = .returned (.int .i64 (endI s i)) ∧ w = w'

theorem end_over (s : Str) (i : Nat) (w : World) (hi : s.length ≤ i) : Calls Tryz.prog 72 #[encS s, .int .i64 i] w (End0 s i w) := by
  have h1 : (s.length : Int) ≤ (i : Int) := by omega
  have HE := Lib.hid (endI_none (end_out (s := s) (i := i) (by simpa using hi)))
  unfold encS
  go_enter Tryz.func72, Tryz.ntmps72
  go_wp2_with fail
  go_ret
  exact ⟨by rw [HE.out]; rfl, rfl⟩

set_option maxHeartbeats 2000000 in
theorem end_step (s : Str) (i : Nat) (w : World) (hs : s.length ≤ 1000000000) (hi : i < s.length) (ih : ∀ j, i < j → ∀ w, Calls Tryz.prog 72 #[encS s, .int .i64 (j : Int)] w (End0 s j w)) :
    Calls Tryz.prog 72 #[encS s, .int .i64 i] w (End0 s i w) := by
  obtain ⟨c, hc⟩ : ∃ c, s[i]? = some c := ⟨_, List.getElem?_eq_getElem hi⟩
  have h1 : (i : Int) < (s.length : Int) := by omega
  have hix := index_at s i c hc i rfl
  have hg0 : decide (s.length ≤ i) = false := decide_eq_false (by omega)
  have hi1 : (i : Int) + 1 ≤ 1000000001 := by omega
  have HL := Lib.hid (letter_any c w)
  have HP := Lib.hid (partsC_any c w)
  have HC := Lib.hid hc
  have IH := Lib.hid ih
  clear hc ih
  unfold encS at *
  rcases parts_cases c with hp | hp | hp | hp
  · have hl : isLet c = false := by simp [isLet, hp]
    rw [hl] at HL
    have HE := Lib.hid (endI_none (end_bad HC.out hl))
    clear hp hl
    go_enter Tryz.func72, Tryz.ntmps72
    go_wp2_with ((with_reducible refine HL.out.mono ?_); clear HL; rintro e w1 ⟨rfl, rfl⟩)
    go_ret
    exact ⟨by rw [HE.out]; rfl, rfl⟩
  · have hl : isLet c = true := by simp [isLet, hp]
    rw [hl] at HL
    obtain ⟨t, ht, htx⟩ := end_zero HC.out hp
    have HE : Hid (endI s i = (i : Int) + 1) := Lib.hid (by rw [endI_some ht, htx]; simp)
    rw [hp] at HP
    clear hp hl ht htx
    go_enter Tryz.func72, Tryz.ntmps72
    go_wp2_with (first
      | ((with_reducible refine HL.out.mono ?_); clear HL; rintro e w1 ⟨rfl, rfl⟩)
      | ((with_reducible refine HP.out.mono ?_); clear HP; rintro e w1 ⟨rfl, rfl⟩))
    refine wp_loop_rounds 1 ?_
    rw [rounds_succ]
    go_wp2_with fail
    go_ret
    exact ⟨by rw [HE.out]; rfl, rfl⟩
  · have hl : isLet c = true := by simp [isLet, hp]
    rw [hl] at HL
    rw [hp] at HP
    obtain ⟨b, rfl⟩ := parts_one hp
    have HOne := Lib.hid (end_one HC.out)
    clear hp hl
    cases h40 : s[i + 1]? with
    | none =>
      have hlen : s.length ≤ i + 1 := by simpa using h40
      have hlen' : (s.length : Int) ≤ (i : Int) + 1 := by omega
      have HE := Lib.hid (endI_none (Option.eq_none_iff_forall_ne_some.2 fun t ht => by have h := ((HOne.out t).1 ht).1; rw [h40] at h; cases h))
      clear h40
      go_enter Tryz.func72, Tryz.ntmps72
      go_wp2_with (first
        | ((with_reducible refine HL.out.mono ?_); clear HL; rintro e w1 ⟨rfl, rfl⟩)
        | ((with_reducible refine HP.out.mono ?_); clear HP; rintro e w1 ⟨rfl, rfl⟩))
      refine wp_loop_rounds 1 ?_
      rw [rounds_succ]
      go_wp2_with fail
      go_ret
      exact ⟨by rw [HE.out]; rfl, rfl⟩
    | some d =>
      have hl1 : i + 1 < s.length := (List.getElem?_eq_some_iff.1 h40).1
      have hl1' : (i : Int) + 1 < (s.length : Int) := by omega
      have hgd : decide ((s.length : Int) ≤ (i : Int) + 1) = false := decide_eq_false (by omega)
      have hix1 := index_at s (i + 1) d h40 ((i : Int) + 1) (by omega)
      by_cases hd : d = 40
      rotate_left
      · have g40 : ((d.toNat : Int) != 40) = true := by rw [bne_iff_ne]; intro e; exact hd (UInt8.toNat_inj.1 (by show d.toNat = 40; omega))
        have HE := Lib.hid (endI_none (Option.eq_none_iff_forall_ne_some.2 fun t ht => by have h := ((HOne.out t).1 ht).1; rw [h40] at h; exact hd (Option.some.inj h)))
        clear h40 hd
        go_enter Tryz.func72, Tryz.ntmps72
        go_wp2_with (first
          | ((with_reducible refine HL.out.mono ?_); clear HL; rintro e w1 ⟨rfl, rfl⟩)
          | ((with_reducible refine HP.out.mono ?_); clear HP; rintro e w1 ⟨rfl, rfl⟩))
        refine wp_loop_rounds 1 ?_
        rw [rounds_succ]
        go_wp2_with fail
        go_ret
        exact ⟨by rw [HE.out]; rfl, rfl⟩
      subst hd
      have hix1 : ∀ W : World, (Instr.index 9 (.string ⟨s.toArray⟩) (.int .i64 ((i : Int) + 1))).run Tryz.prog W = .ok (.int .u8 40) W := hix1
      have H40 := Lib.hid h40
      have hI := IH.out (i + 2) (by omega) w
      rw [show (((i + 2 : Nat) : Nat) : Int) = (i : Int) + 1 + 1 by omega] at hI
      unfold End0 at hI
      clear h40
      cases hr : termAt s (i + 2) with
      | none =>
        rw [endI_none hr] at hI
        have HI := Lib.hid hI
        have HE := Lib.hid (endI_none (Option.eq_none_iff_forall_ne_some.2 fun t ht => by obtain ⟨-, r, h, -⟩ := (HOne.out t).1 ht; rw [hr] at h; cases h))
        clear hI hr
        go_enter Tryz.func72, Tryz.ntmps72
        go_wp2_with (first
          | ((with_reducible refine HL.out.mono ?_); clear HL; rintro e w1 ⟨rfl, rfl⟩)
          | ((with_reducible refine HP.out.mono ?_); clear HP; rintro e w1 ⟨rfl, rfl⟩))
        refine wp_loop_rounds 1 ?_
        rw [rounds_succ]
        go_wp2_with (first | ((with_reducible refine HI.out.mono ?_); clear HI; rintro e w1 ⟨rfl, rfl⟩))
        go_ret
        exact ⟨by rw [HE.out]; rfl, rfl⟩
      | some r =>
        rw [endI_some hr] at hI
        have HI := Lib.hid hI
        have HR := Lib.hid hr
        have hend := termAt_end hr
        clear hI hr
        generalize hj : i + 2 + r.text.length = j at *
        have hj0 : decide ((j : Int) < 0) = false := decide_eq_false (by omega)
        cases h41 : s[j]? with
        | none =>
          have hlen : s.length ≤ j := by simpa using h41
          have hg1 : decide (s.length ≤ j) = true := decide_eq_true hlen
          have HE := Lib.hid (endI_none (Option.eq_none_iff_forall_ne_some.2 fun t ht => by obtain ⟨-, r', h, h2, -⟩ := (HOne.out t).1 ht; rw [HR.out] at h; cases h; rw [hj, h41] at h2; cases h2))
          clear h41 hlen
          go_enter Tryz.func72, Tryz.ntmps72
          go_wp2_with (first
            | ((with_reducible refine HL.out.mono ?_); clear HL; rintro e w1 ⟨rfl, rfl⟩)
            | ((with_reducible refine HP.out.mono ?_); clear HP; rintro e w1 ⟨rfl, rfl⟩))
          refine wp_loop_rounds 2 ?_
          rw [rounds_succ]
          go_wp2_with (first | ((with_reducible refine HI.out.mono ?_); clear HI; rintro e w1 ⟨rfl, rfl⟩))
          rw [rounds_succ]
          go_wp2_with (first | ((with_reducible refine HI.out.mono ?_); clear HI; rintro e w1 ⟨rfl, rfl⟩))
          go_ret
          exact ⟨by rw [HE.out]; rfl, rfl⟩
        | some d =>
          have hl2 : j < s.length := (List.getElem?_eq_some_iff.1 h41).1
          have hg1 : decide (s.length ≤ j) = false := decide_eq_false (by omega)
          have hix2 := index_at s j d h41 (j : Int) rfl
          by_cases hd : d = 41
          rotate_left
          · have g41 : ((d.toNat : Int) != 41) = true := by rw [bne_iff_ne]; intro e; exact hd (UInt8.toNat_inj.1 (by show d.toNat = 41; omega))
            have HE := Lib.hid (endI_none (Option.eq_none_iff_forall_ne_some.2 fun t ht => by obtain ⟨-, r', h, h2, -⟩ := (HOne.out t).1 ht; rw [HR.out] at h; cases h; rw [hj, h41] at h2; exact hd (Option.some.inj h2)))
            clear h41 hd
            go_enter Tryz.func72, Tryz.ntmps72
            go_wp2_with (first
              | ((with_reducible refine HL.out.mono ?_); clear HL; rintro e w1 ⟨rfl, rfl⟩)
              | ((with_reducible refine HP.out.mono ?_); clear HP; rintro e w1 ⟨rfl, rfl⟩))
            refine wp_loop_rounds 2 ?_
            rw [rounds_succ]
            go_wp2_with (first | ((with_reducible refine HI.out.mono ?_); clear HI; rintro e w1 ⟨rfl, rfl⟩))
            rw [rounds_succ]
            go_wp2_with (first | ((with_reducible refine HI.out.mono ?_); clear HI; rintro e w1 ⟨rfl, rfl⟩))
            go_ret
            exact ⟨by rw [HE.out]; rfl, rfl⟩
          subst hd
          have hix2 : ∀ W : World, (Instr.index 9 (.string ⟨s.toArray⟩) (.int .i64 (j : Int))).run Tryz.prog W = .ok (.int .u8 41) W := hix2
          have hyes : termAt s i = some (.u b r) := (HOne.out _).2 ⟨H40.out, r, HR.out, by rw [hj]; exact h41, rfl⟩
          have HE : Hid (endI s i = (j : Int) + 1) := Lib.hid (by rw [endI_some hyes]; simp only [Tm.text, List.length_cons, List.length_append, List.length_nil]; omega)
          have hj1 : (j : Int) + 1 ≤ 1000000001 := by omega
          clear h41 hyes
          go_enter Tryz.func72, Tryz.ntmps72
          go_wp2_with (first
            | ((with_reducible refine HL.out.mono ?_); clear HL; rintro e w1 ⟨rfl, rfl⟩)
            | ((with_reducible refine HP.out.mono ?_); clear HP; rintro e w1 ⟨rfl, rfl⟩))
          refine wp_loop_rounds 2 ?_
          rw [rounds_succ]
          go_wp2_with (first | ((with_reducible refine HI.out.mono ?_); clear HI; rintro e w1 ⟨rfl, rfl⟩))
          rw [rounds_succ]
          go_wp2_with (first | ((with_reducible refine HI.out.mono ?_); clear HI; rintro e w1 ⟨rfl, rfl⟩))
          go_ret
          exact ⟨by rw [HE.out]; rfl, rfl⟩
  · have hl : isLet c = true := by simp [isLet, hp]
    rw [hl] at HL
    rw [hp] at HP
    obtain ⟨b, rfl⟩ := parts_two hp
    have HTwo := Lib.hid (end_two HC.out)
    clear hp hl
    cases h40 : s[i + 1]? with
    | none =>
      have hlen : s.length ≤ i + 1 := by simpa using h40
      have hlen' : (s.length : Int) ≤ (i : Int) + 1 := by omega
      have HE := Lib.hid (endI_none (Option.eq_none_iff_forall_ne_some.2 fun t ht => by have h := ((HTwo.out t).1 ht).1; rw [h40] at h; cases h))
      clear h40
      go_enter Tryz.func72, Tryz.ntmps72
      go_wp2_with (first
        | ((with_reducible refine HL.out.mono ?_); clear HL; rintro e w1 ⟨rfl, rfl⟩)
        | ((with_reducible refine HP.out.mono ?_); clear HP; rintro e w1 ⟨rfl, rfl⟩))
      refine wp_loop_rounds 1 ?_
      rw [rounds_succ]
      go_wp2_with fail
      go_ret
      exact ⟨by rw [HE.out]; rfl, rfl⟩
    | some d =>
      have hl1 : i + 1 < s.length := (List.getElem?_eq_some_iff.1 h40).1
      have hl1' : (i : Int) + 1 < (s.length : Int) := by omega
      have hgd : decide ((s.length : Int) ≤ (i : Int) + 1) = false := decide_eq_false (by omega)
      have hix1 := index_at s (i + 1) d h40 ((i : Int) + 1) (by omega)
      by_cases hd : d = 40
      rotate_left
      · have g40 : ((d.toNat : Int) != 40) = true := by rw [bne_iff_ne]; intro e; exact hd (UInt8.toNat_inj.1 (by show d.toNat = 40; omega))
        have HE := Lib.hid (endI_none (Option.eq_none_iff_forall_ne_some.2 fun t ht => by have h := ((HTwo.out t).1 ht).1; rw [h40] at h; exact hd (Option.some.inj h)))
        clear h40 hd
        go_enter Tryz.func72, Tryz.ntmps72
        go_wp2_with (first
          | ((with_reducible refine HL.out.mono ?_); clear HL; rintro e w1 ⟨rfl, rfl⟩)
          | ((with_reducible refine HP.out.mono ?_); clear HP; rintro e w1 ⟨rfl, rfl⟩))
        refine wp_loop_rounds 1 ?_
        rw [rounds_succ]
        go_wp2_with fail
        go_ret
        exact ⟨by rw [HE.out]; rfl, rfl⟩
      subst hd
      have hix1 : ∀ W : World, (Instr.index 9 (.string ⟨s.toArray⟩) (.int .i64 ((i : Int) + 1))).run Tryz.prog W = .ok (.int .u8 40) W := hix1
      have H40 := Lib.hid h40
      have hI := IH.out (i + 2) (by omega) w
      rw [show (((i + 2 : Nat) : Nat) : Int) = (i : Int) + 1 + 1 by omega] at hI
      unfold End0 at hI
      clear h40
      cases hr : termAt s (i + 2) with
      | none =>
        rw [endI_none hr] at hI
        have HI := Lib.hid hI
        have HE := Lib.hid (endI_none (Option.eq_none_iff_forall_ne_some.2 fun t ht => by obtain ⟨-, r, h, -⟩ := (HTwo.out t).1 ht; rw [hr] at h; cases h))
        clear hI hr
        go_enter Tryz.func72, Tryz.ntmps72
        go_wp2_with (first
          | ((with_reducible refine HL.out.mono ?_); clear HL; rintro e w1 ⟨rfl, rfl⟩)
          | ((with_reducible refine HP.out.mono ?_); clear HP; rintro e w1 ⟨rfl, rfl⟩))
        refine wp_loop_rounds 1 ?_
        rw [rounds_succ]
        go_wp2_with (first | ((with_reducible refine HI.out.mono ?_); clear HI; rintro e w1 ⟨rfl, rfl⟩))
        go_ret
        exact ⟨by rw [HE.out]; rfl, rfl⟩
      | some r =>
        rw [endI_some hr] at hI
        have HI := Lib.hid hI
        have HR := Lib.hid hr
        have hend := termAt_end hr
        clear hI hr
        generalize hj : i + 2 + r.text.length = j at *
        have hj0 : decide ((j : Int) < 0) = false := decide_eq_false (by omega)
        cases h44 : s[j]? with
        | none =>
          have hlen : s.length ≤ j := by simpa using h44
          have hg1 : decide (s.length ≤ j) = true := decide_eq_true hlen
          have HE := Lib.hid (endI_none (Option.eq_none_iff_forall_ne_some.2 fun t ht => by obtain ⟨-, r', h, h2, -⟩ := (HTwo.out t).1 ht; rw [HR.out] at h; cases h; rw [hj, h44] at h2; cases h2))
          clear h44 hlen
          go_enter Tryz.func72, Tryz.ntmps72
          go_wp2_with (first
            | ((with_reducible refine HL.out.mono ?_); clear HL; rintro e w1 ⟨rfl, rfl⟩)
            | ((with_reducible refine HP.out.mono ?_); clear HP; rintro e w1 ⟨rfl, rfl⟩))
          refine wp_loop_rounds 2 ?_
          rw [rounds_succ]
          go_wp2_with (first | ((with_reducible refine HI.out.mono ?_); clear HI; rintro e w1 ⟨rfl, rfl⟩))
          rw [rounds_succ]
          go_wp2_with (first | ((with_reducible refine HI.out.mono ?_); clear HI; rintro e w1 ⟨rfl, rfl⟩))
          go_ret
          exact ⟨by rw [HE.out]; rfl, rfl⟩
        | some d =>
          have hl2 : j < s.length := (List.getElem?_eq_some_iff.1 h44).1
          have hg1 : decide (s.length ≤ j) = false := decide_eq_false (by omega)
          have hix2 := index_at s j d h44 (j : Int) rfl
          have hj1 : (j : Int) + 1 ≤ 1000000001 := by omega
          by_cases hd : d = 44
          rotate_left
          · have g44 : ((d.toNat : Int) != 44) = true := by rw [bne_iff_ne]; intro e; exact hd (UInt8.toNat_inj.1 (by show d.toNat = 44; omega))
            have HE := Lib.hid (endI_none (Option.eq_none_iff_forall_ne_some.2 fun t ht => by obtain ⟨-, r', h, h2, -⟩ := (HTwo.out t).1 ht; rw [HR.out] at h; cases h; rw [hj, h44] at h2; exact hd (Option.some.inj h2)))
            clear h44 hd
            go_enter Tryz.func72, Tryz.ntmps72
            go_wp2_with (first
              | ((with_reducible refine HL.out.mono ?_); clear HL; rintro e w1 ⟨rfl, rfl⟩)
              | ((with_reducible refine HP.out.mono ?_); clear HP; rintro e w1 ⟨rfl, rfl⟩))
            refine wp_loop_rounds 2 ?_
            rw [rounds_succ]
            go_wp2_with (first | ((with_reducible refine HI.out.mono ?_); clear HI; rintro e w1 ⟨rfl, rfl⟩))
            rw [rounds_succ]
            go_wp2_with (first | ((with_reducible refine HI.out.mono ?_); clear HI; rintro e w1 ⟨rfl, rfl⟩))
            go_ret
            exact ⟨by rw [HE.out]; rfl, rfl⟩
          subst hd
          have hix2 : ∀ W : World, (Instr.index 9 (.string ⟨s.toArray⟩) (.int .i64 (j : Int))).run Tryz.prog W = .ok (.int .u8 44) W := hix2
          have H44 := Lib.hid h44
          have hI2 := IH.out (j + 1) (by omega) w
          rw [show (((j + 1 : Nat) : Nat) : Int) = (j : Int) + 1 by omega] at hI2
          unfold End0 at hI2
          clear h44
          cases hr2 : termAt s (j + 1) with
          | none =>
            rw [endI_none hr2] at hI2
            have HI2 := Lib.hid hI2
            have HE := Lib.hid (endI_none (Option.eq_none_iff_forall_ne_some.2 fun t ht => by obtain ⟨-, r', h, -, r2, h2, -⟩ := (HTwo.out t).1 ht; rw [HR.out] at h; cases h; rw [hj, hr2] at h2; cases h2))
            clear hI2 hr2
            go_enter Tryz.func72, Tryz.ntmps72
            go_wp2_with (first
              | ((with_reducible refine HL.out.mono ?_); clear HL; rintro e w1 ⟨rfl, rfl⟩)
              | ((with_reducible refine HP.out.mono ?_); clear HP; rintro e w1 ⟨rfl, rfl⟩))
            refine wp_loop_rounds 2 ?_
            rw [rounds_succ]
            go_wp2_with (first | ((with_reducible refine HI.out.mono ?_); clear HI; rintro e w1 ⟨rfl, rfl⟩) | ((with_reducible refine HI2.out.mono ?_); clear HI2; rintro e w1 ⟨rfl, rfl⟩))
            rw [rounds_succ]
            go_wp2_with (first | ((with_reducible refine HI.out.mono ?_); clear HI; rintro e w1 ⟨rfl, rfl⟩) | ((with_reducible refine HI2.out.mono ?_); clear HI2; rintro e w1 ⟨rfl, rfl⟩))
            go_ret
            exact ⟨by rw [HE.out]; rfl, rfl⟩
          | some r2 =>
            rw [endI_some hr2] at hI2
            have HI2 := Lib.hid hI2
            have HR2 := Lib.hid hr2
            have hend2 := termAt_end hr2
            clear hI2 hr2
            generalize hm : j + 1 + r2.text.length = m at *
            have hm0 : decide ((m : Int) < 0) = false := decide_eq_false (by omega)
            cases h41 : s[m]? with
            | none =>
              have hlen : s.length ≤ m := by simpa using h41
              have hg2 : decide (s.length ≤ m) = true := decide_eq_true hlen
              have HE := Lib.hid (endI_none (Option.eq_none_iff_forall_ne_some.2 fun t ht => by obtain ⟨-, r', h, -, r2', h2, h3, -⟩ := (HTwo.out t).1 ht; rw [HR.out] at h; cases h; rw [hj, HR2.out] at h2; cases h2; rw [hj, hm, h41] at h3; cases h3))
              clear h41 hlen
              go_enter Tryz.func72, Tryz.ntmps72
              go_wp2_with (first
                | ((with_reducible refine HL.out.mono ?_); clear HL; rintro e w1 ⟨rfl, rfl⟩)
                | ((with_reducible refine HP.out.mono ?_); clear HP; rintro e w1 ⟨rfl, rfl⟩))
              refine wp_loop_rounds 3 ?_
              rw [rounds_succ]
              go_wp2_with (first | ((with_reducible refine HI.out.mono ?_); clear HI; rintro e w1 ⟨rfl, rfl⟩) | ((with_reducible refine HI2.out.mono ?_); clear HI2; rintro e w1 ⟨rfl, rfl⟩))
              rw [rounds_succ]
              go_wp2_with (first | ((with_reducible refine HI.out.mono ?_); clear HI; rintro e w1 ⟨rfl, rfl⟩) | ((with_reducible refine HI2.out.mono ?_); clear HI2; rintro e w1 ⟨rfl, rfl⟩))
              rw [rounds_succ]
              go_wp2_with (first | ((with_reducible refine HI.out.mono ?_); clear HI; rintro e w1 ⟨rfl, rfl⟩) | ((with_reducible refine HI2.out.mono ?_); clear HI2; rintro e w1 ⟨rfl, rfl⟩))
              go_ret
              exact ⟨by rw [HE.out]; rfl, rfl⟩
            | some d =>
              have hl3 : m < s.length := (List.getElem?_eq_some_iff.1 h41).1
              have hg2 : decide (s.length ≤ m) = false := decide_eq_false (by omega)
              have hix3 := index_at s m d h41 (m : Int) rfl
              by_cases hd : d = 41
              rotate_left
              · have g41 : ((d.toNat : Int) != 41) = true := by rw [bne_iff_ne]; intro e; exact hd (UInt8.toNat_inj.1 (by show d.toNat = 41; omega))
                have HE := Lib.hid (endI_none (Option.eq_none_iff_forall_ne_some.2 fun t ht => by obtain ⟨-, r', h, -, r2', h2, h3, -⟩ := (HTwo.out t).1 ht; rw [HR.out] at h; cases h; rw [hj, HR2.out] at h2; cases h2; rw [hj, hm, h41] at h3; exact hd (Option.some.inj h3)))
                clear h41 hd
                go_enter Tryz.func72, Tryz.ntmps72
                go_wp2_with (first
                  | ((with_reducible refine HL.out.mono ?_); clear HL; rintro e w1 ⟨rfl, rfl⟩)
                  | ((with_reducible refine HP.out.mono ?_); clear HP; rintro e w1 ⟨rfl, rfl⟩))
                refine wp_loop_rounds 3 ?_
                rw [rounds_succ]
                go_wp2_with (first | ((with_reducible refine HI.out.mono ?_); clear HI; rintro e w1 ⟨rfl, rfl⟩) | ((with_reducible refine HI2.out.mono ?_); clear HI2; rintro e w1 ⟨rfl, rfl⟩))
                rw [rounds_succ]
                go_wp2_with (first | ((with_reducible refine HI.out.mono ?_); clear HI; rintro e w1 ⟨rfl, rfl⟩) | ((with_reducible refine HI2.out.mono ?_); clear HI2; rintro e w1 ⟨rfl, rfl⟩))
                rw [rounds_succ]
                go_wp2_with (first | ((with_reducible refine HI.out.mono ?_); clear HI; rintro e w1 ⟨rfl, rfl⟩) | ((with_reducible refine HI2.out.mono ?_); clear HI2; rintro e w1 ⟨rfl, rfl⟩))
                go_ret
                exact ⟨by rw [HE.out]; rfl, rfl⟩
              subst hd
              have hix3 : ∀ W : World, (Instr.index 9 (.string ⟨s.toArray⟩) (.int .i64 (m : Int))).run Tryz.prog W = .ok (.int .u8 41) W := hix3
              have hyes : termAt s i = some (.p b r r2) := (HTwo.out _).2 ⟨H40.out, r, HR.out, by rw [hj]; exact H44.out, r2, by rw [hj]; exact HR2.out, by rw [hj, hm]; exact h41, rfl⟩
              have HE : Hid (endI s i = (m : Int) + 1) := Lib.hid (by rw [endI_some hyes]; simp only [Tm.text, List.length_cons, List.length_append, List.length_nil]; omega)
              have hm1 : (m : Int) + 1 ≤ 1000000001 := by omega
              clear h41 hyes
              go_enter Tryz.func72, Tryz.ntmps72
              go_wp2_with (first
                | ((with_reducible refine HL.out.mono ?_); clear HL; rintro e w1 ⟨rfl, rfl⟩)
                | ((with_reducible refine HP.out.mono ?_); clear HP; rintro e w1 ⟨rfl, rfl⟩))
              refine wp_loop_rounds 3 ?_
              rw [rounds_succ]
              go_wp2_with (first | ((with_reducible refine HI.out.mono ?_); clear HI; rintro e w1 ⟨rfl, rfl⟩) | ((with_reducible refine HI2.out.mono ?_); clear HI2; rintro e w1 ⟨rfl, rfl⟩))
              rw [rounds_succ]
              go_wp2_with (first | ((with_reducible refine HI.out.mono ?_); clear HI; rintro e w1 ⟨rfl, rfl⟩) | ((with_reducible refine HI2.out.mono ?_); clear HI2; rintro e w1 ⟨rfl, rfl⟩))
              rw [rounds_succ]
              go_wp2_with (first | ((with_reducible refine HI.out.mono ?_); clear HI; rintro e w1 ⟨rfl, rfl⟩) | ((with_reducible refine HI2.out.mono ?_); clear HI2; rintro e w1 ⟨rfl, rfl⟩))
              go_ret
              exact ⟨by rw [HE.out]; rfl, rfl⟩

theorem end_any (s : Str) (hs : s.length ≤ 1000000000) : ∀ (n i : Nat), s.length ≤ i + n → ∀ w, Calls Tryz.prog 72 #[encS s, .int .i64 (i : Int)] w (End0 s i w) := by
  intro n
  induction n with
  | zero => exact fun i hi w => end_over s i w hi
  | succ n ih =>
    intro i hi w
    by_cases h : s.length ≤ i
    · exact end_over s i w h
    · exact end_step s i w hs (by omega) fun j hj w => ih j (by omega) w

theorem End_any (s : Str) (hs : s.length ≤ 1000000000) (i : Nat) (w : World) : Calls Tryz.prog 72 #[encS s, .int .i64 (i : Int)] w (End0 s i w) := end_any s hs s.length i (by omega) w

end Go.Proofs.YtholmlkjcobkdaaGreat
