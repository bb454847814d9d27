/- The reference's Numbers. -/
import Derived.Test.YtholmlkjcobkdaaGreatRefVal
namespace Go.Proofs.YtholmlkjcobkdaaGreat
set_option linter.all false
set_option linter.unusedSimpArgs false
set_option linter.unusedVariables false
open Go.RowKit
set_option maxRecDepth 100000

theorem conv_byte (d : Nat) (hd : d < 6) : ∀ W : World, (convert 3 5 (.int .i64 (97 + (d : Int)))).run Tryz.prog W = .ok (.int .u8 (97 + (d : Int))) W := by
  have : d = 0 ∨ d = 1 ∨ d = 2 ∨ d = 3 ∨ d = 4 ∨ d = 5 := by omega
  rcases this with rfl | rfl | rfl | rfl | rfl | rfl <;> (intro W; kernel_rfl)

theorem partsD_any (d : Nat) (hd : d < 6) (w : World) : Calls Tryz.prog 71 #[.int .u8 (97 + (d : Int))] w fun e w' => e = .returned (.int .i64 ((d / 2 : Nat) : Int)) ∧ w' = w := by
  have : d = 0 ∨ d = 1 ∨ d = 2 ∨ d = 3 ∨ d = 4 ∨ d = 5 := by omega
  rcases this with rfl | rfl | rfl | rfl | rfl | rfl
  · exact (partsN_any 97 (by decide) w).mono fun e w' h => ⟨h.1, h.2.symm⟩
  · exact (partsN_any 98 (by decide) w).mono fun e w' h => ⟨h.1, h.2.symm⟩
  · exact (partsN_any 99 (by decide) w).mono fun e w' h => ⟨h.1, h.2.symm⟩
  · exact (partsN_any 100 (by decide) w).mono fun e w' h => ⟨h.1, h.2.symm⟩
  · exact (partsN_any 101 (by decide) w).mono fun e w' h => ⟨h.1, h.2.symm⟩
  · exact (partsN_any 102 (by decide) w).mono fun e w' h => ⟨h.1, h.2.symm⟩

/-- A row without the list's length: as okRow, in the reference's order. -/
theorem okRow_bad1 {i : Nat} {r : List Int} (h : r.length ≠ 1 + i / 2) : okRow i r = false := by rw [okRow_iff, decide_eq_false h]; rfl
theorem okRow_bad2 {i : Nat} {r : List Int} (h : r.getD 0 0 < 0) : okRow i r = false := by rw [okRow_iff, decide_eq_false (show ¬ 0 ≤ r.getD 0 0 by omega)]; simp
theorem okRow_bad3 {i : Nat} {r : List Int} (h : 2 < r.getD 0 0) : okRow i r = false := by rw [okRow_iff, decide_eq_false (show ¬ r.getD 0 0 ≤ 2 by omega)]; simp
theorem okRow_bad4 {i j : Nat} {r : List Int} {n : Int} (hj : 1 ≤ j) (hr : r[j]? = some n) (h : ¬ (1 ≤ n ∧ n ≤ 2)) : okRow i r = false := by
  rw [okRow_iff]
  have : (r.drop 1).any (fun n => !decide (1 ≤ n ∧ n ≤ 2)) = true := by
    refine List.any_eq_true.2 ⟨n, List.mem_iff_getElem?.2 ⟨j - 1, ?_⟩, by simp only [decide_eq_false h]; rfl⟩
    rw [List.getElem?_drop, show 1 + (j - 1) = j by omega]; exact hr
  rw [this]; simp
theorem okRow_good {i : Nat} {r : List Int} (h1 : r.length = 1 + i / 2) (h2 : 0 ≤ r.getD 0 0) (h3 : r.getD 0 0 ≤ 2) (h4 : ∀ (j : Nat) (n : Int), 1 ≤ j → r[j]? = some n → 1 ≤ n ∧ n ≤ 2) : okRow i r = true := by
  rw [okRow_iff, decide_eq_true h1, decide_eq_true h2, decide_eq_true h3]
  have : (r.drop 1).any (fun n => !decide (1 ≤ n ∧ n ≤ 2)) = false := by
    rw [List.any_eq_false]
    intro n hn
    obtain ⟨j, hj⟩ := List.mem_iff_getElem?.1 hn
    rw [List.getElem?_drop] at hj
    have := h4 _ n (by omega) hj
    simp [this]
  rw [this]; rfl

theorem okRead_bad {rd : List (List Int)} {d : Nat} (hd : d < 6) (h : okRow d (rd.getD d []) = false) : okRead rd = false := by
  unfold okRead
  have : ((List.range 6).all fun i => okRow i (rd.getD i [])) = false := by
    rw [List.all_eq_false]
    exact ⟨d, by simpa using hd, by rw [h]; simp⟩
  rw [this, Bool.and_false]

theorem okRead_len {rd : List (List Int)} (h : rd.length ≠ 6) : okRead rd = false := by simp [okRead, h]

set_option maxHeartbeats 4000000 in
theorem Numbers_any (rd : List (List Int)) (v : Value) (w : World) (hn : rd.length ≤ 1000) (hm : ∀ r ∈ rd, r.length ≤ 1000) (hr : IsRd w v rd) : Calls Tryz.prog 23 #[v] w fun e w' => e = .returned (.bool (okRead rd)) ∧ Ext w w' := by
  obtain ⟨p, cap, rfl, hcap, hc⟩ := hr
  have HC := Lib.hid hc
  have HM := Lib.hid hm
  clear hc hm
  go_enter Tryz.func23, Tryz.ntmps23
  go_wp2_with fail
  go_loopg [3] 7 (fun k i wr => ∃ d, d + k = 7 ∧ d ≤ rd.length ∧ d ≤ 6 ∧ i = .int .i64 d ∧ Ext w wr ∧ ((List.range d).all fun i => okRow i (rd.getD i [])) = true)
  case atStart => exact ⟨0, rfl, Nat.zero_le _, by decide, rfl, Ext.refl _, by simp⟩
  case round =>
    obtain ⟨d, hd, hdle, hd6, rfl, hE, hall⟩ := hrel
    have HE := Lib.hid hE
    have HAll := Lib.hid hall
    clear hE hall
    by_cases hex : d < rd.length ∧ d < 6
    rotate_left
    · have hfin : okRead rd = decide (rd.length = 6) := by
        by_cases h6 : rd.length = 6
        · have hd' : d = 6 := by omega
          have h := HAll.out
          rw [hd'] at h
          rw [okRead_iff rd h6, h, decide_eq_true h6]
        · rw [okRead_len h6, decide_eq_false h6]
      have HFin := Lib.hid hfin
      clear hfin
      by_cases h1 : d < rd.length
      · have h2 : d = 6 := by omega
        subst h2
        have h1' : (6 : Int) < (rd.length : Int) := by omega
        have g1 : ((rd.length : Int) == 6) = false := by rw [beq_eq_false_iff_ne]; omega
        go_wp2_with fail
        go_ret
        exact ⟨by rw [HFin.out, decide_eq_false (by omega)]; rfl, HE.out⟩
      · have h2 : d = rd.length := by omega
        subst h2
        cases h6 : decide (rd.length = 6) with
        | true =>
          have g1 : ((rd.length : Int) == 6) = true := by have := of_decide_eq_true h6; simp [this]
          have H6 := Lib.hid h6
          clear h6
          go_wp2_with fail
          go_ret
          exact ⟨by rw [HFin.out, H6.out]; rfl, HE.out⟩
        | false =>
          have g1 : ((rd.length : Int) == 6) = false := by have := of_decide_eq_false h6; rw [beq_eq_false_iff_ne]; omega
          have H6 := Lib.hid h6
          clear h6
          go_wp2_with fail
          go_ret
          exact ⟨by rw [HFin.out, H6.out]; rfl, HE.out⟩
    obtain ⟨hdl, hdl6⟩ := hex
    cases gk with
    | zero => omega
    | succ k =>
      have hdl' : (d : Int) < (rd.length : Int) := by omega
      have hdl6' : (d : Int) < 6 := by omega
      have hd2 : (d : Int) + 1 ≤ 6 := by omega
      obtain ⟨r, hrr⟩ : ∃ r, rd[d]? = some r := ⟨_, List.getElem?_eq_getElem hdl⟩
      obtain ⟨a, o, x, rfl, hcell, hx⟩ := HC.out d r hrr
      have hce := HE.out.cell hcell
      have hrl := HM.out r (List.mem_of_getElem? hrr)
      have hgd : rd.getD d [] = r := by simp [List.getD, hrr]
      obtain ⟨q, cap', rfl, hcap', hcc⟩ := hx
      have hcv := conv_byte d hdl6
      have hs1 : IntKind.i64.wrap (97 + (d : Int)) = 97 + (d : Int) := IntWalk.i64_in _ (by omega)
      have HP := Lib.hid (fun w => partsD_any d hdl6 w)
      have hm2 : d / 2 ≤ 2 := by omega
      have HGd := Lib.hid hgd
      have HCC := Lib.hid hcc
      have HCell := Lib.hid hcell
      clear hrr hgd hcc hcell
      generalize hmm : d / 2 = m at HP hm2
      have HMm := Lib.hid hmm
      have hs2 : IntKind.i64.wrap (1 + (m : Int)) = 1 + (m : Int) := IntWalk.i64_in _ (by omega)
      clear hmm
      by_cases hlen : r.length = 1 + m
      rotate_left
      · have g2 : ((r.length : Int) != 1 + (m : Int)) = true := by simp; omega
        have HL := Lib.hid hlen
        clear hlen
        go_wp2_with fail
        go_quiet ((go_at_call 71; exact Calls.quiet_of_same (HP.out _)))
        go_wp2_with fail
        go_ret
        exact ⟨by rw [okRead_bad hdl6 (by rw [HGd.out]; exact okRow_bad1 (by rw [HMm.out]; exact HL.out))]; rfl, HE.out.drewN _⟩
      have g2 : ((r.length : Int) != 1 + (m : Int)) = false := by simp; omega
      have hr0 : 0 < r.length := by omega
      have hr0' : (0 : Int) < (r.length : Int) := by omega
      obtain ⟨n0, hn0⟩ : ∃ n, r[0]? = some n := ⟨_, List.getElem?_eq_getElem hr0⟩
      obtain ⟨b, ob, rfl, hb0⟩ := HCC.out 0 n0 hn0
      have hb0' := HE.out.cell hb0
      simp only [Nat.add_zero] at hb0'
      have hg0 : r.getD 0 0 = n0 := by simp [List.getD, hn0]
      have HG0 := Lib.hid hg0
      have HL := Lib.hid hlen
      clear hlen hn0 hg0 hb0
      by_cases hlo : n0 < 0
      · have g3 : decide (n0 < 0) = true := decide_eq_true hlo
        have HLo := Lib.hid hlo
        clear hlo
        go_wp2_with fail
        go_quiet ((go_at_call 71; exact Calls.quiet_of_same (HP.out _)))
        go_wp2_with fail
        go_ret
        exact ⟨by rw [okRead_bad hdl6 (by rw [HGd.out]; exact okRow_bad2 (by rw [HG0.out]; exact HLo.out))]; rfl, HE.out.drewN _⟩
      have g3 : decide (n0 < 0) = false := decide_eq_false hlo
      by_cases hhi : 2 < n0
      · have g4 : decide (2 < n0) = true := decide_eq_true hhi
        have HHi := Lib.hid hhi
        clear hlo hhi
        go_wp2_with fail
        go_quiet ((go_at_call 71; exact Calls.quiet_of_same (HP.out _)))
        go_wp2_with fail
        go_ret
        exact ⟨by rw [okRead_bad hdl6 (by rw [HGd.out]; exact okRow_bad3 (by rw [HG0.out]; exact HHi.out))]; rfl, HE.out.drewN _⟩
      have g4 : decide (2 < n0) = false := decide_eq_false hhi
      have HLo := Lib.hid hlo
      have HHi := Lib.hid hhi
      clear hlo hhi
      go_wp2_with fail
      go_quiet ((go_at_call 71; exact Calls.quiet_of_same (HP.out _)))
      have hEn := HE.out.drewN nq
      have HEn := Lib.hid hEn
      generalize wr.drewN nq = wn at HEn ⊢
      clear hEn g2 g3 g4 hcv hs1 hs2 hce hb0' HP
      obtain ⟨wo, rfl⟩ : ∃ wo : World, wo = wr := ⟨_, rfl⟩
      go_wp2_with fail
      go_loopg [4] (r.length - 1) (fun kk i wr => ∃ j, j + kk = r.length ∧ 1 ≤ j ∧ i = .int .i64 j ∧ Ext w wr ∧ ∀ (j' : Nat) (n : Int), 1 ≤ j' → j' < j → r[j']? = some n → 1 ≤ n ∧ n ≤ 2)
      case atStart => exact ⟨1, by omega, Nat.le_refl _, rfl, HEn.out, fun j' n h1 h2 => by omega⟩
      case round =>
        obtain ⟨j, hj, hj1, rfl, hE2, hgood⟩ := hrel
        have HE2 := Lib.hid hE2
        have HGood := Lib.hid hgood
        have hcd := hE2.cell HCell.out
        clear hE2 hgood
        by_cases hjl : j < r.length
        · have hjl' : (j : Int) < (r.length : Int) := by omega
          have hj2 : (j : Int) + 1 ≤ 1001 := by omega
          obtain ⟨n1, hn1⟩ : ∃ n, r[j]? = some n := ⟨_, List.getElem?_eq_getElem hjl⟩
          obtain ⟨b', ob', he, hbj⟩ := HCC.out j n1 hn1
          cases he
          have hbj' := HE2.out.cell hbj
          have HN1 := Lib.hid hn1
          clear hn1 hbj
          by_cases hok : 1 ≤ n1 ∧ n1 ≤ 2
          · have g5 : decide (n1 < 1) = false := decide_eq_false (by omega)
            have g6 : decide (2 < n1) = false := decide_eq_false (by omega)
            have HOk := Lib.hid hok
            clear hok
            cases gk with
            | zero => omega
            | succ kk =>
              go_wp2_with fail
              go_roundg kk
              case measure => omega
              case rel =>
                refine ⟨j + 1, by omega, by omega, congrArg (Value.int .i64) (by omega), HE2.out, fun j' n h1 h2 h3 => ?_⟩
                by_cases hjj : j' < j
                · exact HGood.out j' n h1 hjj h3
                · obtain rfl : j' = j := by omega
                  rw [HN1.out] at h3; cases h3; exact HOk.out
          · have HNok := Lib.hid hok
            by_cases hlow : n1 < 1
            · have g5 : decide (n1 < 1) = true := decide_eq_true hlow
              clear hok hlow
              go_wp2_with fail
              go_ret
              exact ⟨by rw [okRead_bad hdl6 (by rw [HGd.out]; exact okRow_bad4 hj1 HN1.out HNok.out)]; rfl, HE2.out⟩
            · have g5 : decide (n1 < 1) = false := decide_eq_false hlow
              have g6 : decide (2 < n1) = true := decide_eq_true (by omega)
              clear hok hlow
              go_wp2_with fail
              go_ret
              exact ⟨by rw [okRead_bad hdl6 (by rw [HGd.out]; exact okRow_bad4 hj1 HN1.out HNok.out)]; rfl, HE2.out⟩
        · have hje : j = r.length := by omega
          subst hje
          go_wp2_with fail
          go_roundg k
          case measure => omega
          case rel =>
            refine ⟨d + 1, by omega, by omega, by omega, congrArg (Value.int .i64) (by omega), HE2.out, ?_⟩
            rw [List.range_succ, List.all_append, HAll.out]
            simp only [List.all_cons, List.all_nil, Bool.and_true, Bool.true_and]
            rw [HGd.out]
            exact okRow_good (by rw [HMm.out]; exact HL.out) (by rw [HG0.out]; exact HLo.out) (by rw [HG0.out]; exact HHi.out) fun j' n h1 h3 => HGood.out j' n h1 (List.getElem?_eq_some_iff.1 h3).1 h3

end Go.Proofs.YtholmlkjcobkdaaGreat
