/- slices.Contains over bytes; []byte of a string. -/
import Derived.Test.YtholmlkjcobkdaaGreatGreat
import Derived.Lib.ConvBytes
namespace Go.Proofs.YtholmlkjcobkdaaGreat
set_option linter.all false
set_option linter.unusedSimpArgs false
set_option linter.unusedVariables false
open Go.RowKit
set_option maxRecDepth 100000

/-- Bytes that lie one by one. -/
def BytesAt (W : World) (a o : Nat) (l : Str) : Prop := ∀ j b, l[j]? = some b → W.cell? ⟨a, o + j, none⟩ = some (encB b)

theorem indexB_any (l : Str) (c : UInt8) (a o cap : Nat) (w : World) (hn : l.length ≤ 1000000000) (hc : BytesAt w a o l) (hcap : l.length ≤ cap) (ha : a < w.heap.size) :
    Calls Tryz.prog 129 #[.slice (some ⟨a, o, none⟩) l.length cap, encB c] w fun e w' => (∃ n : Int, e = .returned (.int .i64 n) ∧ (c ∈ l ∧ 0 ≤ n ∨ c ∉ l ∧ n = -1)) ∧ w = w' := by
  have HC := Lib.hid hc
  clear hc
  unfold encB
  go_enter Tryz.func129, Tryz.ntmps129
  go_wp2_with fail
  go_loopg [8] l.length (fun k i wr => ∃ d, d + k = l.length ∧ i = .int .i64 d ∧ w = wr ∧ c ∉ l.take d)
  case atStart => exact ⟨0, by simp, rfl, rfl, by simp⟩
  case round =>
    obtain ⟨d, hd, rfl, rfl, hno⟩ := hrel
    have HNo := Lib.hid hno
    clear hno
    cases gk with
    | zero =>
      obtain rfl : d = l.length := by omega
      go_wp2_with fail
      go_ret
      have h := HNo.out
      rw [List.take_length] at h
      exact ⟨⟨-1, rfl, .inr ⟨h, rfl⟩⟩, rfl⟩
    | succ k =>
      have hdl : d < l.length := by omega
      have hdl' : (d : Int) < (l.length : Int) := by omega
      have hd2 : (d : Int) + 1 ≤ 1000000001 := by omega
      obtain ⟨b, hb⟩ : ∃ b, l[d]? = some b := ⟨_, List.getElem?_eq_getElem hdl⟩
      have hcell := HC.out d b hb
      unfold encB at hcell
      have HB := Lib.hid hb
      clear hb
      by_cases hcb : c = b
      · have g : ((c.toNat : Int) == (b.toNat : Int)) = true := by simp [hcb]
        have HCB := Lib.hid hcb
        clear hcb
        go_wp2_with fail
        go_ret
        exact ⟨⟨d, rfl, .inl ⟨HCB.out ▸ List.mem_of_getElem? HB.out, by omega⟩⟩, rfl⟩
      · have g : ((c.toNat : Int) == (b.toNat : Int)) = false := by rw [beq_eq_false_iff_ne]; intro e; exact hcb (UInt8.toNat_inj.1 (by omega))
        have HCB := Lib.hid hcb
        clear hcb
        go_wp2_with fail
        go_roundg k
        case measure => omega
        case rel =>
          refine ⟨d + 1, by omega, congrArg (Value.int .i64) (by omega), rfl, ?_⟩
          rw [List.take_add_one, HB.out, List.mem_append]
          rintro (h | h)
          · exact HNo.out h
          · simp at h; exact HCB.out h

theorem containsB_any (l : Str) (c : UInt8) (a o cap : Nat) (w : World) (hn : l.length ≤ 1000000000) (hc : BytesAt w a o l) (hcap : l.length ≤ cap) (ha : a < w.heap.size) :
    Calls Tryz.prog 89 #[.slice (some ⟨a, o, none⟩) l.length cap, encB c] w fun e w' => e = .returned (.bool (decide (c ∈ l))) ∧ w = w' := by
  have HC := Lib.hid (indexB_any l c a o cap w hn hc hcap ha)
  clear hc
  unfold encB at *
  go_enter Tryz.func89, Tryz.ntmps89
  go_wp2_with fail
  refine HC.out.mono ?_
  rintro e w' ⟨⟨n, rfl, hh⟩, rfl⟩
  clear HC
  rcases hh with ⟨h1, h2⟩ | ⟨h1, rfl⟩
  · have H1 := Lib.hid h1
    clear h1
    go_wp2_with fail
    go_ret
    exact ⟨by simp [H1.out, h2], rfl⟩
  · have H1 := Lib.hid h1
    clear h1
    go_wp2_with fail
    go_ret
    exact ⟨by simp [H1.out], rfl⟩

theorem conv_any (s : Str) (w : World) : ∃ cap w', (convert 9 124 (.string ⟨s.toArray⟩)).run Tryz.prog w = .ok (.slice (some ⟨w.heap.size, 0, none⟩) s.length cap) w' ∧ Ext w w' ∧ BytesAt w' w.heap.size 0 s ∧ s.length ≤ cap ∧ w.heap.size < w'.heap.size := by
  refine ⟨_, _, Lib.run_convert_string_bytes w 9 124 5 ⟨s.toArray⟩ Tryz.underlying9 Tryz.underlying124 Tryz.underlying5, ?_, ?_, ?_, ?_⟩
  · exact ⟨rfl, rfl, rfl, by rw [Lib.bytesWorld_size]; omega, fun k hk => Lib.bytesWorld_at_old _ _ _ _ hk⟩
  · intro j b hb
    have hj : j < s.length := (List.getElem?_eq_some_iff.1 hb).1
    rw [Nat.zero_add, Lib.bytesWorld_cell _ _ _ _ (by simpa [ByteArray.size] using hj)]
    simp [List.getD, hb, encB]
  · exact grownCap_ge _ _ _ _
  · rw [Lib.bytesWorld_size]; omega

end Go.Proofs.YtholmlkjcobkdaaGreat
