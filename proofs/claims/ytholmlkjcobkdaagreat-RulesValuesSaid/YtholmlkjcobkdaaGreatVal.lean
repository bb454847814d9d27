/- Readings, and values of terms: the walks. -/
import Derived.Test.YtholmlkjcobkdaaGreatValP
namespace Go.Proofs.YtholmlkjcobkdaaGreat
set_option linter.all false
set_option linter.unusedSimpArgs false
set_option linter.unusedVariables false
open Go.RowKit
set_option maxRecDepth 100000

theorem partsI_any (i : Nat) (hi : i < 6) (w : World) : Calls Tryz.prog 114 #[.int .u8 (97 + (i : Int))] w fun e w' => e = .returned (.int .i64 ((i / 2 : Nat) : Int)) ∧ w = w' := by
  have : i = 0 ∨ i = 1 ∨ i = 2 ∨ i = 3 ∨ i = 4 ∨ i = 5 := by omega
  rcases this with rfl | rfl | rfl | rfl | rfl | rfl
  all_goals
    go_enter Tryz.func114, Tryz.ntmps114
    go_wp2
    go_ret
    exact ⟨rfl, rfl⟩

theorem inRange_any (n : Int) (w : World) : Calls Tryz.prog 118 #[.int .i64 n] w fun e w' => e = .returned (.bool (!decide (1 ≤ n ∧ n ≤ 2))) ∧ w = w' := by
  go_enter Tryz.func118, Tryz.ntmps118
  go_wp2_with ((with_reducible refine (within_any _ _ _ _).mono ?_); rintro e w1 ⟨rfl, rfl⟩)
  go_ret
  exact ⟨by simp, rfl⟩

/-- Whether a list of numbers, read from its cells, holds one that is out of bounds. -/
theorem indexI_any (r : List Int) (x : Value) (w : World) (hn : r.length ≤ 1000) (hx : IsRow w x r) :
    Calls Tryz.prog 143 #[x, .func (.func 118) #[] #[]] w fun e w' => (∃ n : Int, e = .returned (.int .i64 n) ∧ ((r.any fun n => !decide (1 ≤ n ∧ n ≤ 2)) = true ∧ 0 ≤ n ∨ (r.any fun n => !decide (1 ≤ n ∧ n ≤ 2)) = false ∧ n = -1)) ∧ w = w' := by
  obtain ⟨p, cap, rfl, hcap, hc⟩ := hx
  have hg : ∀ xs W, (callFunc 118 xs).run Tryz.prog W = .ok (.enter 118 xs) W := fun _ _ => by kernel_rfl
  have HC := Lib.hid hc
  clear hc
  go_enter Tryz.func143, Tryz.ntmps143
  go_wp2_with fail
  go_loopg [8] r.length (fun k i wr => ∃ d, d + k = r.length ∧ i = .int .i64 d ∧ w = wr ∧ ((r.take d).any fun n => !decide (1 ≤ n ∧ n ≤ 2)) = false)
  case atStart => exact ⟨0, by simp, rfl, rfl, by simp⟩
  case round =>
    obtain ⟨d, hd, rfl, rfl, hno⟩ := hrel
    have HNo := Lib.hid hno
    clear hno
    cases gk with
    | zero =>
      obtain rfl : d = r.length := by omega
      go_wp2_with fail
      go_ret
      have h := HNo.out
      rw [List.take_length] at h
      exact ⟨⟨-1, rfl, .inr ⟨h, rfl⟩⟩, rfl⟩
    | succ k =>
      have hdl : d < r.length := by omega
      have hdl' : (d : Int) < (r.length : Int) := by omega
      have hd2 : (d : Int) + 1 ≤ 1001 := by omega
      obtain ⟨n, hn'⟩ : ∃ n, r[d]? = some n := ⟨_, List.getElem?_eq_getElem hdl⟩
      obtain ⟨a, o, rfl, hcell⟩ := HC.out d n hn'
      have HN := Lib.hid hn'
      have HR := Lib.hid (inRange_any n w)
      clear hn'
      cases hf : (!decide (1 ≤ n ∧ n ≤ 2)) with
      | true =>
        rw [hf] at HR
        have HF := Lib.hid hf
        clear hf
        go_wp2_with fail
        refine HR.out.mono ?_
        rintro e w1 ⟨rfl, rfl⟩
        clear HR
        go_wp2_with fail
        go_ret
        exact ⟨⟨d, rfl, .inl ⟨List.any_eq_true.2 ⟨_, List.mem_of_getElem? HN.out, HF.out⟩, by omega⟩⟩, rfl⟩
      | false =>
        rw [hf] at HR
        have HF := Lib.hid hf
        clear hf
        go_wp2_with fail
        refine HR.out.mono ?_
        rintro e w1 ⟨rfl, rfl⟩
        clear HR
        go_wp2_with fail
        go_roundg k
        case measure => omega
        case rel =>
          refine ⟨d + 1, by omega, congrArg (Value.int .i64) (by omega), rfl, ?_⟩
          rw [List.take_add_one, HN.out, List.any_append, HNo.out]
          simp only [Option.toList_some, List.any_cons, List.any_nil, HF.out]; rfl

theorem containsI_any (r : List Int) (x : Value) (w : World) (hn : r.length ≤ 1000) (hx : IsRow w x r) :
    Calls Tryz.prog 117 #[x, .func (.func 118) #[] #[]] w fun e w' => e = .returned (.bool (r.any fun n => !decide (1 ≤ n ∧ n ≤ 2))) ∧ w = w' := by
  have HC := Lib.hid (indexI_any r x w hn hx)
  obtain ⟨p, cap, rfl, hcap, hc⟩ := hx
  clear hc
  go_enter Tryz.func117, Tryz.ntmps117
  go_wp2_with fail
  refine HC.out.mono ?_
  rintro e w1 ⟨⟨n, rfl, hh⟩, rfl⟩
  clear HC
  rcases hh with ⟨ha, hn0⟩ | ⟨ha, rfl⟩
  · have HA := Lib.hid ha
    clear ha
    go_wp2_with fail
    go_ret
    exact ⟨by rw [HA.out]; simp [hn0], rfl⟩
  · have HA := Lib.hid ha
    clear ha
    go_wp2_with fail
    go_ret
    exact ⟨by rw [HA.out]; rfl, rfl⟩

theorem slice_tail (r : List Int) (x : Value) (w : World) (hx : IsRow w x r) (h : 0 < r.length) : ∃ x', (∀ W, (Instr.sliceAt 43 x (some (.int .i64 1)) none none).run Tryz.prog W = .ok x' W) ∧ IsRow w x' (r.drop 1) := by
  obtain ⟨p, cap, rfl, hcap, hc⟩ := hx
  obtain ⟨n, hn⟩ : ∃ n, r[0]? = some n := ⟨_, List.getElem?_eq_getElem h⟩
  obtain ⟨a, o, rfl, -⟩ := hc 0 n hn
  have hz : ∀ W, (sizeOf (Tryz.prog.elem 43)).run Tryz.prog W = .ok 1 W := fun W => by kernel_rfl
  have hu : ∀ W, (Instr.sliceAt 43 (.slice (some ⟨a, o, none⟩) r.length cap) (some (.int .i64 1)) none none).run Tryz.prog W = .ok (sliced (some ⟨a, o, none⟩) 1 r.length cap 1) W := by
    intro W
    rw [run_sliceAt_slice W _ _ _ _ _ (by kernel_rfl), run_slice_l W _ _ _ _ (by kernel_rfl) _ _ (by omega) (by omega), hz]
    rfl
  refine ⟨_, hu, ?_⟩
  unfold sliced
  refine ⟨_, _, by rw [List.length_drop], by rw [List.length_drop]; omega, fun j m hj => ?_⟩
  rw [List.getElem?_drop] at hj
  have hl := (List.getElem?_eq_some_iff.1 hj).1
  have hne : ¬ cap = 1 := by omega
  obtain ⟨a', o', e, hcell⟩ := hc (1 + j) m hj
  cases e
  rw [if_neg hne]
  exact ⟨a, o + 1, rfl, by rw [Nat.add_assoc]; exact hcell⟩

theorem okRow_iff (i : Nat) (r : List Int) : okRow i r = (decide (r.length = 1 + i / 2) && (decide (0 ≤ r.getD 0 0) && decide (r.getD 0 0 ≤ 2)) && !((r.drop 1).any fun n => !decide (1 ≤ n ∧ n ≤ 2))) := by
  unfold okRow
  congr 1
  · rw [Bool.decide_and]
  · induction r.drop 1 with
    | nil => rfl
    | cons a l ih => rw [List.all_cons, List.any_cons, ih]; simp

theorem index_sym (d : Nat) (hd : d < 6) : ∀ W : World, (Instr.index 9 (.string { data := #[97, 98, 99, 100, 101, 102] }) (.int .i64 d)).run Tryz.prog W = .ok (.int .u8 (97 + (d : Int))) W := by
  have : d = 0 ∨ d = 1 ∨ d = 2 ∨ d = 3 ∨ d = 4 ∨ d = 5 := by omega
  rcases this with rfl | rfl | rfl | rfl | rfl | rfl <;> (intro W; kernel_rfl)

theorem okRead_iff (rd : List (List Int)) (h : rd.length = 6) : okRead rd = (List.range 6).all fun i => okRow i (rd.getD i []) := by simp [okRead, h]

set_option maxHeartbeats 2000000 in
theorem isReading_any (rd : List (List Int)) (v : Value) (w : World) (hn : rd.length ≤ 1000) (hm : ∀ r ∈ rd, r.length ≤ 1000) (hr : IsRd w v rd) : Calls Tryz.prog 68 #[v] w fun e w' => e = .returned (.bool (okRead rd)) ∧ w = w' := by
  obtain ⟨p, cap, rfl, hcap, hc⟩ := hr
  have HC := Lib.hid hc
  have HM := Lib.hid hm
  clear hc hm
  by_cases h6 : rd.length = 6
  rotate_left
  · have g1 : ((rd.length : Int) != 6) = true := by simp; omega
    have H6 := Lib.hid h6
    clear h6
    go_enter Tryz.func68, Tryz.ntmps68
    go_wp2_with fail
    go_ret
    exact ⟨by simp [okRead, H6.out], rfl⟩
  have g1 : ((rd.length : Int) != 6) = false := by simp [h6]
  have H6 := Lib.hid h6
  clear h6
  go_enter Tryz.func68, Tryz.ntmps68
  go_wp2_with fail
  go_loopg [10] rd.length (fun k i wr => ∃ d, d + k = rd.length ∧ i = .int .i64 d ∧ w = wr ∧ ((List.range d).all fun i => okRow i (rd.getD i [])) = true)
  case atStart => exact ⟨0, by simp, rfl, rfl, by simp⟩
  case round =>
    obtain ⟨d, hd, rfl, rfl, hall⟩ := hrel
    have HAll := Lib.hid hall
    clear hall
    cases gk with
    | zero =>
      obtain rfl : d = rd.length := by omega
      go_wp2_with fail
      go_ret
      have h := HAll.out
      rw [H6.out] at h
      exact ⟨by rw [okRead_iff rd H6.out, h]; rfl, rfl⟩
    | succ k =>
      have hdl : d < rd.length := by omega
      have hdl' : (d : Int) < (rd.length : Int) := by omega
      have hd6 : d < 6 := by have := H6.out; omega
      have hd2 : (d : Int) + 1 ≤ 6 := by omega
      obtain ⟨r, hrr⟩ : ∃ r, rd[d]? = some r := ⟨_, List.getElem?_eq_getElem hdl⟩
      obtain ⟨a, o, x, rfl, hcell, hx⟩ := HC.out d r hrr
      have hix := index_sym d hd6
      have hrl := HM.out r (List.mem_of_getElem? hrr)
      have HP := Lib.hid (partsI_any d hd6 w)
      have hm2 : d / 2 ≤ 2 := by omega
      have hgd : rd.getD d [] = r := by simp [List.getD, hrr]
      have HGd := Lib.hid hgd
      have hbad : okRow d r = false → okRead rd = false := by
        intro h
        rw [okRead_iff rd H6.out, List.all_eq_false]
        exact ⟨d, by simpa using hd6, by rw [HGd.out, h]; simp⟩
      have HBad := Lib.hid hbad
      have hiff := okRow_iff d r
      have HIff := Lib.hid hiff
      obtain ⟨q, cap', rfl, hcap', hcc⟩ := id hx
      have HX := Lib.hid hx
      have HCC := Lib.hid hcc
      clear hrr hgd hbad hiff hx hcc
      generalize hmm : d / 2 = m at *
      have HMm := Lib.hid hmm
      clear hmm
      by_cases hlen : r.length = 1 + m
      rotate_left
      · have g2 : ((r.length : Int) != 1 + (m : Int)) = true := by simp; omega
        have HL := Lib.hid hlen
        clear hlen
        go_wp2_with ((with_reducible refine HP.out.mono ?_); clear HP; rintro e w1 ⟨rfl, rfl⟩)
        go_ret
        exact ⟨by rw [HBad.out (by rw [HIff.out, decide_eq_false HL.out]; rfl)]; rfl, rfl⟩
      have g2 : ((r.length : Int) != 1 + (m : Int)) = false := by simp; omega
      have hr0 : 0 < r.length := by omega
      have hr0' : (0 : Int) < (r.length : Int) := by omega
      obtain ⟨n0, hn0⟩ : ∃ n, r[0]? = some n := ⟨_, List.getElem?_eq_getElem hr0⟩
      obtain ⟨b, ob, rfl, hb0⟩ := HCC.out 0 n0 hn0
      obtain ⟨x', hsl, hx'⟩ := slice_tail r _ w HX.out hr0
      have hg0 : r.getD 0 0 = n0 := by simp [List.getD, hn0]
      have HG0 := Lib.hid hg0
      have HX' := Lib.hid hx'
      have HL := Lib.hid hlen
      have HCon := Lib.hid (containsI_any (r.drop 1) x' w (by rw [List.length_drop]; omega) hx')
      obtain ⟨q', cq, rfl, -⟩ := hx'
      simp only [Nat.add_zero] at hb0
      clear hlen hn0 hg0
      have hld : (r.drop 1).length ≤ 1000 := by rw [List.length_drop]; omega
      generalize hlen' : (r.drop 1).length = ld at *
      clear hlen'
      cases hw : (decide (0 ≤ n0) && decide (n0 ≤ 2)) with
      | false =>
        have HW := Lib.hid hw
        clear hw
        go_wp2_with (first
          | ((with_reducible refine HP.out.mono ?_); clear HP; rintro e w1 ⟨rfl, rfl⟩)
          | ((with_reducible refine (within_any _ _ _ _).mono ?_); rintro e w1 ⟨rfl, rfl⟩; rw [HW.out]))
        go_ret
        exact ⟨by rw [HBad.out (by rw [HIff.out, HG0.out, HW.out]; simp)]; rfl, rfl⟩
      | true =>
        have HW := Lib.hid hw
        clear hw
        cases hb : (r.drop 1).any (fun n => !decide (1 ≤ n ∧ n ≤ 2)) with
        | true =>
          rw [hb] at HCon
          have HB := Lib.hid hb
          clear hb
          go_wp2_with (first
            | ((with_reducible refine HP.out.mono ?_); clear HP; rintro e w1 ⟨rfl, rfl⟩)
            | ((with_reducible refine (within_any _ _ _ _).mono ?_); rintro e w1 ⟨rfl, rfl⟩; rw [HW.out])
            | ((with_reducible refine HCon.out.mono ?_); clear HCon; rintro e w1 ⟨rfl, rfl⟩))
          go_ret
          exact ⟨by rw [HBad.out (by rw [HIff.out, HB.out]; simp)]; rfl, rfl⟩
        | false =>
          rw [hb] at HCon
          have HB := Lib.hid hb
          clear hb
          go_wp2_with (first
            | ((with_reducible refine HP.out.mono ?_); clear HP; rintro e w1 ⟨rfl, rfl⟩)
            | ((with_reducible refine (within_any _ _ _ _).mono ?_); rintro e w1 ⟨rfl, rfl⟩; rw [HW.out])
            | ((with_reducible refine HCon.out.mono ?_); clear HCon; rintro e w1 ⟨rfl, rfl⟩))
          go_roundg k
          case measure => omega
          case rel =>
            refine ⟨d + 1, by omega, congrArg (Value.int .i64) (by omega), rfl, ?_⟩
            rw [List.range_succ, List.all_append, HAll.out]
            simp only [List.all_cons, List.all_nil, Bool.and_true, Bool.true_and]
            rw [HGd.out, HIff.out, HB.out, HG0.out, HW.out, decide_eq_true HL.out]; rfl

end Go.Proofs.YtholmlkjcobkdaaGreat
