/- slices.Clone of terms. -/
import Derived.Test.YtholmlkjcobkdaaGreatRoot
import Derived.Lib.SliceRun
import Derived.Lib.Walk
namespace Go.Proofs.YtholmlkjcobkdaaGreat
set_option linter.all false
set_option linter.unusedSimpArgs false
set_option linter.unusedVariables false
open Go.RowKit
set_option maxRecDepth 100000

set_option maxHeartbeats 1000000 in
theorem clone_any (b off c : Nat) (xs : List Value) (w : World) (hn : xs.length ≤ 1000000) (h1 : ∀ u ∈ xs, u.oneCell' = true) (hc : ∀ j u, xs[j]? = some u → w.cell? ⟨b, off + j, none⟩ = some u) :
    Calls Tryz.prog 126 #[.slice (some ⟨b, off, none⟩) xs.length c] w fun e w' => ∃ v', e = .returned v' ∧ w'.ownsRow w.heap.size 99 1 v' xs.length xs ∧ Ext w w' := by
  have q22 : ∀ (w : World) (a : Option Addr) (n c n' c' : Nat), (binOp .eql 111 (.slice a n c) (.slice none n' c')).run Tryz.prog w = .ok (.bool a.isNone) w := fun w a n c n' c' => Lib.run_eql_slice_nil w _ _ a n c n' c' Tryz.underlying111
  obtain ⟨i0, hi, hz0, hz1, hz2⟩ := info_term
  have H1 := Lib.hid h1
  have HC := Lib.hid hc
  clear h1 hc
  go_enter Tryz.func126, Tryz.ntmps126
  go_wp2_with (at_builtin; refine wpList_append_own _ rfl _ _ 111 rfl w.heap.size 99 i0 .nilIface 1 16 Tryz.underlying111 hi hz0 hz1 hz2 rfl (by decide) _ _ _ rfl (World.ownsRow_made w #[] 0 (Nat.le_refl _) (Nat.zero_le _) rfl) ⟨b, off, none⟩ xs.length c xs rfl ?qc1 ?qc2 ?qc3 ?qc4 ?qc5 ?qc6 ?_)
  case qc1 => simp
  case qc2 =>
    intro j u hj
    rw [Addr.add_lit]
    exact (Ext.new _ _).cell (HC.out j u hj)
  case qc3 => exact H1.out
  case qc4 => unfold maxLen; omega
  case qc5 => omega
  case qc6 => simp
  intro v' w1 hown hgrow hnil
  go_wp2
  go_ret
  refine ⟨v', rfl, by simpa using hown, ?_⟩
  exact ((Below.refl _ w).alloc (Nat.le_refl _) _).grown hgrow (by simp) (by intro k hk; simp [Value.ownBlock] at hk; omega)

/-- The copy, whole: where it lies, what it holds. -/
theorem clone_kids (b off c n : Nat) (xs : List Value) (w : World) (hn0 : 0 < n) (hxs : n = xs.length) (hn : n ≤ 1000000) (h1 : ∀ u ∈ xs, u.oneCell' = true) (hc : ∀ j u, xs[j]? = some u → w.cell? ⟨b, off + j, none⟩ = some u) :
    Calls Tryz.prog 126 #[.slice (some ⟨b, off, none⟩) n c] w fun e w' => ∃ (g cap : Nat) (cur : Array Value), e = .returned (.slice (some ⟨g, 0, none⟩) n cap) ∧ w.heap.size ≤ g ∧ g < w'.heap.size ∧ n ≤ cap ∧ Bx w' g cur 99 ∧ (∀ (j : Nat) (u : Value), xs[j]? = some u → cur[j]? = some u) ∧ Ext w w' := by
  subst hxs
  refine (clone_any b off c xs w hn h1 hc).mono ?_
  rintro e w' ⟨v, rfl, ⟨hl, ⟨rfl, h0⟩ | ⟨g, cap, cur, rfl, hb, hg, hcp, hm, hs, ht⟩⟩, hE⟩
  · omega
  · refine ⟨g, cap, cur, rfl, hb, (Array.getElem?_eq_some_iff.1 hg).1, hcp, hg, fun j u hj => ?_, hE⟩
    have hjl : j < xs.length * 1 := by have := (List.getElem?_eq_some_iff.1 hj).1; omega
    rw [← ht, List.getElem?_take, if_pos hjl] at hj
    simpa using hj

end Go.Proofs.YtholmlkjcobkdaaGreat
