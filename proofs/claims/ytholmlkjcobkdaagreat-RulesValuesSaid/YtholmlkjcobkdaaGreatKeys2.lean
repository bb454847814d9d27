/- Pairs of strings as keys of a map. -/
import Derived.Test.YtholmlkjcobkdaaGreatGtP
namespace Go.Proofs.YtholmlkjcobkdaaGreat
set_option linter.all false
set_option linter.unusedSimpArgs false
set_option linter.unusedVariables false
open Go.RowKit
set_option maxRecDepth 100000

def encSS (p : Str × Str) : Value := .agg #[encS p.1, encS p.2]

theorem under_arr : Tryz.prog.underlying 42 = some (.array 2 9) := by kernel_rfl

theorem equal2 (p q : Str × Str) (w : World) : (Op.equal 42 (encSS p) (encSS q)).run Tryz.prog w = .ok (decide (p = q)) w := by
  obtain ⟨a, b⟩ := p
  obtain ⟨c, d⟩ := q
  unfold Op.equal
  show (Op.equalIn (9999 + 1) _ _ _).run _ _ = _
  unfold Op.equalIn
  have hs := fun (a b : ByteArray) => run_equalIn_string (P := Tryz.prog) w 9998 9 a b Tryz.underlying9
  simp [run_underlying under_arr, encSS, encS, go_sem, show List.range' 0 2 = [0, 1] from rfl, Tryz.isAgg9, Tryz.sizeOf9, hs]
  by_cases h1 : a = c <;> by_cases h2 : b = d <;> simp [h1, h2]

theorem encSS_key (p : Str × Str) (w : World) (b : Bool) : (Instr.checkKey b 10000 42 (encSS p)).run Tryz.prog w = .ok () w := by kernel_rfl

theorem ask2 (k : Str × Str) (w : World) : ∀ (es : List MapEntry) (m : List ((Str × Str) × Value)) (i : Nat), es.map (fun e => (e.key, e.val)) = m.map (fun p => (encSS p.1, p.2)) →
    (Instr.findAsking 42 (encSS k) es i).run Tryz.prog w = .ok (findA k m i) w
  | [], [], _, _ => rfl
  | [], _ :: _, _, h => by simp at h
  | _ :: _, [], _, h => by simp at h
  | e :: es, p :: m, i, h => by
    simp only [List.map_cons, List.cons.injEq, Prod.mk.injEq] at h
    unfold Instr.findAsking findA
    rw [h.1.1]
    by_cases hk : k = p.1
    · simp [equal2, hk, h.1.2]
    · simp [equal2, hk, ask2 k w es m (i + 1) h.2]

theorem now2 (k : Str × Str) : ∀ (es : List MapEntry) (m : List ((Str × Str) × Value)), es.map (fun e => (e.key, e.val)) = m.map (fun p => (encSS p.1, p.2)) →
    Instr.findNow (.array 2 9) (encSS k) es 0 = none ∨ (es = [] ∧ m = [])
  | [], [], _ => .inr ⟨rfl, rfl⟩
  | [], _ :: _, h => by simp at h
  | _ :: _, [], h => by simp at h
  | e :: es, p :: m, h => .inl rfl

theorem keysSS : Keys Tryz.prog 42 encSS where
  check := fun b k w => encSS_key k w b
  find := fun k es m w h => by
    rcases now2 k es m h with h1 | ⟨rfl, rfl⟩
    · simp [Instr.findKey, run_underlying under_arr, h1, ask2 k w es m 0 h]
    · simp [Instr.findKey, run_underlying under_arr, Instr.findNow, findA]
  bits := fun k => by simp [encSS, encS, Instr.sameBits, bytes_beq]

end Go.Proofs.YtholmlkjcobkdaaGreat
