/- RulesValues: the walk. -/
import Derived.Test.YtholmlkjcobkdaaGreatLNum
import Derived.Deep.RegionLaw
namespace Go.Proofs.YtholmlkjcobkdaaGreat
set_option linter.all false
set_option linter.unusedSimpArgs false
set_option linter.unusedVariables false
open Go.RowKit
set_option maxRecDepth 100000

theorem under4 : Tryz.prog.underlying 25 = some (.array 4 3) := by kernel_rfl

theorem eq_vals (f : Nat → Int) (W : World) : (binOp .eql 25 (.agg (vals f)) (.agg (vals f))).run Tryz.prog W = .ok (.bool true) W := by
  have he : (Op.equal 25 (.agg (vals f)) (.agg (vals f))).run Tryz.prog W = .ok true W := by
    unfold Op.equal
    show (Op.equalIn (9999 + 1) _ _ _).run _ _ = _
    unfold Op.equalIn
    have hs := fun (a b : Int) => run_equalIn_int (P := Tryz.prog) W 9998 3 .i64 .i64 a b Tryz.underlying3
    simp [run_underlying under4, vals, go_sem, show List.range' 0 4 = [0, 1, 2, 3] from rfl, Tryz.isAgg3, Tryz.sizeOf3, hs]
  simp [binOp, he, Result.andThen]

theorem eqIn_vals (f : Nat → Int) (W : World) : (Op.equalIn 10000 25 (.agg (vals f)) (.agg (vals f))).run Tryz.prog W = .ok true W := by
  show (Op.equalIn (9999 + 1) _ _ _).run _ _ = _
  unfold Op.equalIn
  have hs := fun (a b : Int) => run_equalIn_int (P := Tryz.prog) W 9998 3 .i64 .i64 a b Tryz.underlying3
  simp [run_underlying under4, vals, go_sem, show List.range' 0 4 = [0, 1, 2, 3] from rfl, Tryz.isAgg3, Tryz.sizeOf3, hs]

theorem valueR_is (rd : List (List Int)) (s : Str) : (okRead rd = false ∧ valueR rd s = .error 2) ∨ (okRead rd = true ∧ Tm.parse s = none ∧ valueR rd s = .error 4) ∨ (∃ t, okRead rd = true ∧ Tm.parse s = some t ∧ 12 < t.size ∧ valueR rd s = .error 5) ∨ ∃ t, okRead rd = true ∧ Tm.parse s = some t ∧ t.size ≤ 12 ∧ valueR rd s = .ok (t.val rd) := by
  cases h : okRead rd with
  | false => exact .inl ⟨rfl, valueR_bad h⟩
  | true =>
    cases hp : Tm.parse s with
    | none => exact .inr (.inl ⟨rfl, rfl, valueR_none h hp⟩)
    | some t =>
      by_cases hz : t.size ≤ 12
      · exact .inr (.inr (.inr ⟨t, rfl, rfl, hz, valueR_ok h hp hz⟩))
      · exact .inr (.inr (.inl ⟨t, rfl, rfl, by omega, valueR_big h hp hz⟩))

set_option maxHeartbeats 4000000 in
theorem rulesValues_any (rd : List (List Int)) (v : Value) (s : Str) (w : World) (hr : ArgRd w v rd) (hs : s.length ≤ 9223372036854775807) :
    Calls Tryz.prog 3 #[v, encS s] w fun e w' => e = .returned (.bool true) ∧ Ext w w' := by
  have HN := Lib.hid (numbers_any rd v w hr)
  have hsh : ∀ W, Calls Tryz.prog 21 #[encS s] W fun e w' => e = .returned (encS (s.take 400)) ∧ W = w' := fun W => short_any s W hs
  have HSh := Lib.hid hsh
  obtain ⟨p, cap, rfl, -⟩ := hr
  have hrl : ((rd.take 7).map (List.take 4)).length ≤ 1000 := by rw [List.length_map, List.length_take]; omega
  have hrm : ∀ r ∈ (rd.take 7).map (List.take 4), r.length ≤ 1000 := by
    intro r hr
    obtain ⟨r', -, rfl⟩ := List.mem_map.1 hr
    rw [List.length_take]; omega
  have htl : (s.take 400).length ≤ 1000000000 := by rw [List.length_take]; omega
  generalize (rd.take 7).map (List.take 4) = r at *
  generalize s.take 400 = t at *
  have HRl := Lib.hid hrl
  have HRm := Lib.hid hrm
  have HTl := Lib.hid htl
  clear hrl hrm htl hsh hs
  go_enter Tryz.func3, Tryz.ntmps3
  go_upto_region 2 with (first
    | ((with_reducible refine HN.out.mono ?_); clear HN; rintro e w1 ⟨v1, rfl, hown, hE⟩; have hrd1 := hown.rd; obtain ⟨p1, c1, hv1⟩ := hrd1.slice; subst hv1; have HRd := Lib.hid hrd1; have HE := Lib.hid hE; clear hown hrd1 hE)
    | ((with_reducible refine (HSh.out _).mono ?_); clear HSh; rintro e w2 ⟨rfl, rfl⟩))
  have hval := Value_any r t _ _ HRl.out HRm.out HRd.out
  have hnum : ∀ W, Ext w1 W → Calls Tryz.prog 23 #[.slice p1 r.length c1] W fun e w' => e = .returned (.bool (okRead r)) ∧ Ext W w' := fun W he => Numbers_any r _ W HRl.out HRm.out (HRd.out.ext he)
  have htm : ∀ W, Calls Tryz.prog 25 #[encS t] W fun e w' => e = .returned (.bool (Tm.parse t).isSome) ∧ W = w' := fun W => term_is t W HTl.out
  have hsz : ∀ W, Calls Tryz.prog 26 #[encS t] W fun e w' => e = .returned (.int .i64 (lets t)) ∧ W = w' := fun W => sizeR_any t W HTl.out
  rcases valueR_is r t with ⟨hok, hv⟩ | ⟨hok, hpn, hv⟩ | ⟨u, hok, hpu, hz, hv⟩ | ⟨u, hok, hpu, hz, hv⟩
  · rw [hv] at hval
    have HVal := Lib.hid hval
    rw [hok] at hnum
    have HNum := Lib.hid hnum
    clear hval hnum htm hsz hok hv
    go_upto_region 3 with ((with_reducible refine HVal.out.mono ?_); clear HVal; rintro e w2 ⟨⟨f, ho, -⟩ | ⟨m, ho, rfl⟩, hE⟩; cases ho; cases ho; unfold zero4; have HE2 := Lib.hid hE)
    
    have hE2 := HE2.out.trans (Ext.new w2 (.cells #[.int .i64 0, .int .i64 0, .int .i64 0, .int .i64 0] 25))
    have hb2 := Bx.new w2 #[.int .i64 0, .int .i64 0, .int .i64 0, .int .i64 0] 25
    generalize w2.alloc (.cells #[.int .i64 0, .int .i64 0, .int .i64 0, .int .i64 0] 25) = W2 at hE2 hb2 ⊢
    generalize w2.heap.size = n2 at hb2 ⊢
    have HB2 := Lib.hid hb2
    have HE3 := Lib.hid hE2
    have HEw := Lib.hid (HE.out.trans hE2)
    clear hb2 hE2 HE2
    have heq : ∀ W, (binOp .eql 25 (.agg #[.int .i64 0, .int .i64 0, .int .i64 0, .int .i64 0]) (.agg #[.int .i64 0, .int .i64 0, .int .i64 0, .int .i64 0])).run Tryz.prog W = .ok (.bool true) W := fun W => eq_vals (fun _ => 0) W
    go_wp2_with (first
      | (go_at_call 23; (with_reducible refine (HNum.out _ HE3.out).mono ?_); clear HNum; rintro e w3 ⟨rfl, hE3⟩; have hb3 := HB2.out.ext hE3; have c0 := hb3.at 0 (y := .int .i64 0) rfl; have c1 := hb3.at 1 (y := .int .i64 0) rfl; have c2 := hb3.at 2 (y := .int .i64 0) rfl; have c3 := hb3.at 3 (y := .int .i64 0) rfl; have HE4 := Lib.hid (HEw.out.trans hE3); clear hb3 hE3)
      | (go_at_call 24; refine (awake_any _).mono ?_; rintro e w4 ⟨rfl, hE4⟩; have HE5 := Lib.hid (HE4.out.trans hE4); clear hE4))
    go_ret
    exact ⟨rfl, HE5.out⟩
  · rw [hv] at hval
    have HVal := Lib.hid hval
    rw [hok] at hnum
    have HNum := Lib.hid hnum
    rw [hpn] at htm
    have HTm := Lib.hid htm
    clear hval hnum htm hsz hok hv hpn
    go_upto_region 3 with ((with_reducible refine HVal.out.mono ?_); clear HVal; rintro e w2 ⟨⟨f, ho, -⟩ | ⟨m, ho, rfl⟩, hE⟩; cases ho; cases ho; unfold zero4; have HE2 := Lib.hid hE)
    
    have hE2 := HE2.out.trans (Ext.new w2 (.cells #[.int .i64 0, .int .i64 0, .int .i64 0, .int .i64 0] 25))
    have hb2 := Bx.new w2 #[.int .i64 0, .int .i64 0, .int .i64 0, .int .i64 0] 25
    generalize w2.alloc (.cells #[.int .i64 0, .int .i64 0, .int .i64 0, .int .i64 0] 25) = W2 at hE2 hb2 ⊢
    generalize w2.heap.size = n2 at hb2 ⊢
    have HB2 := Lib.hid hb2
    have HE3 := Lib.hid hE2
    have HEw := Lib.hid (HE.out.trans hE2)
    clear hb2 hE2 HE2
    have heq : ∀ W, (binOp .eql 25 (.agg #[.int .i64 0, .int .i64 0, .int .i64 0, .int .i64 0]) (.agg #[.int .i64 0, .int .i64 0, .int .i64 0, .int .i64 0])).run Tryz.prog W = .ok (.bool true) W := fun W => eq_vals (fun _ => 0) W
    go_wp2_with (first
      | (go_at_call 23; (with_reducible refine (HNum.out _ HE3.out).mono ?_); clear HNum; rintro e w3 ⟨rfl, hE3⟩; have hb3 := HB2.out.ext hE3; have c0 := hb3.at 0 (y := .int .i64 0) rfl; have c1 := hb3.at 1 (y := .int .i64 0) rfl; have c2 := hb3.at 2 (y := .int .i64 0) rfl; have c3 := hb3.at 3 (y := .int .i64 0) rfl; have HE4 := Lib.hid (HEw.out.trans hE3); clear hb3 hE3)
      | (go_at_call 25; (with_reducible refine (HTm.out _).mono ?_); clear HTm; rintro e w4 ⟨rfl, rfl⟩)
      | (go_at_call 24; refine (awake_any _).mono ?_; rintro e w4 ⟨rfl, hE4⟩; have HE5 := Lib.hid (HE4.out.trans hE4); clear hE4))
    go_ret
    exact ⟨rfl, HE5.out⟩
  · rw [hv] at hval
    have HVal := Lib.hid hval
    rw [hok] at hnum
    have HNum := Lib.hid hnum
    rw [hpu] at htm
    have HTm := Lib.hid htm
    have hls : lets t = u.size := by rw [((Tm.parse_iff _ _).1 hpu).1]; exact lets_text u
    rw [hls] at hsz
    have HSz := Lib.hid hsz
    have hz' : (12 : Int) < (u.size : Int) := by omega
    clear hval hnum htm hsz hok hv hpu hls
    go_upto_region 3 with ((with_reducible refine HVal.out.mono ?_); clear HVal; rintro e w2 ⟨⟨f, ho, -⟩ | ⟨m, ho, rfl⟩, hE⟩; cases ho; cases ho; unfold zero4; have HE2 := Lib.hid hE)
    
    have hE2 := HE2.out.trans (Ext.new w2 (.cells #[.int .i64 0, .int .i64 0, .int .i64 0, .int .i64 0] 25))
    have hb2 := Bx.new w2 #[.int .i64 0, .int .i64 0, .int .i64 0, .int .i64 0] 25
    generalize w2.alloc (.cells #[.int .i64 0, .int .i64 0, .int .i64 0, .int .i64 0] 25) = W2 at hE2 hb2 ⊢
    generalize w2.heap.size = n2 at hb2 ⊢
    have HB2 := Lib.hid hb2
    have HE3 := Lib.hid hE2
    have HEw := Lib.hid (HE.out.trans hE2)
    clear hb2 hE2 HE2
    have heq : ∀ W, (binOp .eql 25 (.agg #[.int .i64 0, .int .i64 0, .int .i64 0, .int .i64 0]) (.agg #[.int .i64 0, .int .i64 0, .int .i64 0, .int .i64 0])).run Tryz.prog W = .ok (.bool true) W := fun W => eq_vals (fun _ => 0) W
    go_wp2_with (first
      | (go_at_call 23; (with_reducible refine (HNum.out _ HE3.out).mono ?_); clear HNum; rintro e w3 ⟨rfl, hE3⟩; have hb3 := HB2.out.ext hE3; have c0 := hb3.at 0 (y := .int .i64 0) rfl; have c1 := hb3.at 1 (y := .int .i64 0) rfl; have c2 := hb3.at 2 (y := .int .i64 0) rfl; have c3 := hb3.at 3 (y := .int .i64 0) rfl; have HE4 := Lib.hid (HEw.out.trans hE3); clear hb3 hE3)
      | (go_at_call 25; (with_reducible refine (HTm.out _).mono ?_); clear HTm; rintro e w4 ⟨rfl, rfl⟩)
      | (go_at_call 26; (with_reducible refine (HSz.out _).mono ?_); clear HSz; rintro e w4 ⟨rfl, rfl⟩)
      | (go_at_call 24; refine (awake_any _).mono ?_; rintro e w4 ⟨rfl, hE4⟩; have HE5 := Lib.hid (HE4.out.trans hE4); clear hE4))
    go_ret
    exact ⟨rfl, HE5.out⟩
  · rw [hv] at hval
    have HVal := Lib.hid hval
    rw [hok] at hnum
    have HNum := Lib.hid hnum
    have htx := ((Tm.parse_iff _ _).1 hpu).1
    have hrv : ∀ W, Ext w1 W → Calls Tryz.prog 27 #[.slice p1 r.length c1, encS t] W (Vals (u.val r) W) := fun W he => by rw [htx]; exact rval_any r hok _ u W hz (HRd.out.ext he)
    have HRv := Lib.hid hrv
    rw [hpu] at htm
    have HTm := Lib.hid htm
    have hls : lets t = u.size := by rw [htx]; exact lets_text u
    rw [hls] at hsz
    have HSz := Lib.hid hsz
    have hz' : (u.size : Int) ≤ 12 := by omega
    clear hval hnum htm hsz hok hv hpu hls hrv htx hz
    go_upto_region 3 with ((with_reducible refine HVal.out.mono ?_); clear HVal; rintro e w2 ⟨⟨f, ho, rfl⟩ | ⟨m, ho, -⟩, hE⟩; rotate_left; cases ho; cases ho; unfold vals; have HE2 := Lib.hid hE)
    have hE2 := HE2.out.trans (Ext.new w2 (.cells #[.int .i64 (u.val r 0), .int .i64 (u.val r 1), .int .i64 (u.val r 2), .int .i64 (u.val r 3)] 25))
    have hb2 := Bx.new w2 #[.int .i64 (u.val r 0), .int .i64 (u.val r 1), .int .i64 (u.val r 2), .int .i64 (u.val r 3)] 25
    generalize w2.alloc (.cells #[.int .i64 (u.val r 0), .int .i64 (u.val r 1), .int .i64 (u.val r 2), .int .i64 (u.val r 3)] 25) = W2 at hE2 hb2 ⊢
    generalize w2.heap.size = n2 at hb2 ⊢
    have HB2 := Lib.hid hb2
    have HE3 := Lib.hid hE2
    have HEw := Lib.hid (HE.out.trans hE2)
    clear hb2 hE2 HE2
    have heq : ∀ W, (Op.equalIn 10000 25 (.agg #[.int .i64 (u.val r 0), .int .i64 (u.val r 1), .int .i64 (u.val r 2), .int .i64 (u.val r 3)]) (.agg #[.int .i64 (u.val r 0), .int .i64 (u.val r 1), .int .i64 (u.val r 2), .int .i64 (u.val r 3)])).run Tryz.prog W = .ok true W := fun W => eqIn_vals (u.val r) W
    have HEq := Lib.hid heq
    clear heq
    go_upto_region 9 with (first
      | (go_at_call 23; (with_reducible refine (HNum.out _ HE3.out).mono ?_); clear HNum; rintro e w3 ⟨rfl, hE3⟩; have hb3 := HB2.out.ext hE3; have c0 := hb3.at 0 (y := .int .i64 (u.val r 0)) rfl; have c1 := hb3.at 1 (y := .int .i64 (u.val r 1)) rfl; have c2 := hb3.at 2 (y := .int .i64 (u.val r 2)) rfl; have c3 := hb3.at 3 (y := .int .i64 (u.val r 3)) rfl; have HE4 := Lib.hid (HEw.out.trans hE3); have HE1 := Lib.hid (HE3.out.trans hE3); have HB3 := Lib.hid hb3; clear hb3 hE3)
      | (go_at_call 25; (with_reducible refine (HTm.out _).mono ?_); clear HTm; rintro e w4 ⟨rfl, rfl⟩)
      | (go_at_call 26; (with_reducible refine (HSz.out _).mono ?_); clear HSz; rintro e w4 ⟨rfl, rfl⟩))
    go_region_law (first
      | (go_simp; go_at_call 27; (with_reducible refine (HRv.out w3.drew (HE1.out.trans (Ext.refl w3).drew)).mono ?_); rintro e w5 ⟨rfl, hE5⟩; unfold vals; have hb5 : Bx w5 n2 #[.int .i64 (u.val r 0), .int .i64 (u.val r 1), .int .i64 (u.val r 2), .int .i64 (u.val r 3)] 25 := Bx.ext HB3.out (Ext.undrew hE5); have d0 := hb5.at 0 (y := .int .i64 (u.val r 0)) rfl; have d1 := hb5.at 1 (y := .int .i64 (u.val r 1)) rfl; have d2 := hb5.at 2 (y := .int .i64 (u.val r 2)) rfl; have d3 := hb5.at 3 (y := .int .i64 (u.val r 3)) rfl; have heq5 := HEq.out w5; have HE5 : Hid (Ext w w5) := Lib.hid (HE4.out.trans hE5.undrew); clear hb5 hE5)
      | (go_simp; go_at_call 24; refine (awake_any w5).mono ?_; rintro e w6 ⟨rfl, hE6⟩; have HE6 := Lib.hid (HE5.out.trans hE6); clear hE6))
    all_goals
      go_wp2_with fail
      go_ret
      exact ⟨rfl, HE6.out⟩

end Go.Proofs.YtholmlkjcobkdaaGreat
