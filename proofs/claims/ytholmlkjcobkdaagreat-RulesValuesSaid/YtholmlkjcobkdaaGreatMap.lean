/- Maps that a call makes and writes: a list of keys and values. -/
import Derived.Test.YtholmlkjcobkdaaGreatBase
namespace Go.Proofs.YtholmlkjcobkdaaGreat
set_option linter.all false
set_option linter.unusedSimpArgs false
set_option linter.unusedVariables false
open Go.RowKit

section
variable {α : Type}
/-- Block M of the world is the map m. -/
def Mp (enc : α → Value) (w : World) (M : Nat) (m : List (α × Value)) : Prop :=
  ∃ es clock, w.heap[M]? = some (.map es clock) ∧ es.toList.map (fun e => (e.key, e.val)) = m.map (fun p => (enc p.1, p.2))

theorem Mp.lt {enc : α → Value} {w : World} {M : Nat} {m : List (α × Value)} (h : Mp enc w M m) : M < w.heap.size := by
  obtain ⟨es, c, h, -⟩ := h; exact (Array.getElem?_eq_some_iff.1 h).1
theorem Mp.same {enc : α → Value} {w w' : World} {M : Nat} {m : List (α × Value)} (h : Mp enc w M m) (he : w'.heap[M]? = w.heap[M]?) : Mp enc w' M m := by
  obtain ⟨es, c, h, h2⟩ := h; exact ⟨es, c, he.trans h, h2⟩
theorem Mp.ext {enc : α → Value} {w w' : World} {M : Nat} {m : List (α × Value)} (h : Mp enc w M m) (he : Ext w w') : Mp enc w' M m := h.same (Below.block he M h.lt)
theorem Mp.grown {enc : α → Value} {w w' : World} {M : Nat} {m : List (α × Value)} {r : Option Nat} (h : Mp enc w M m) (hg : w.grownBy w' r) (hr : some M ≠ r) : Mp enc w' M m := h.same (hg.block M h.lt hr)
theorem Mp.alloc {enc : α → Value} {w : World} {M : Nat} {m : List (α × Value)} (h : Mp enc w M m) (o : Obj) : Mp enc (w.alloc o) M m := h.same (Below.heap_alloc _ _ _ h.lt)
theorem Mp.set {enc : α → Value} {w : World} {M : Nat} {m : List (α × Value)} (h : Mp enc w M m) (p : Addr) (v : Value) : Mp enc (w.setCell p v) M m := by
  obtain ⟨es, c, h, h2⟩ := h
  refine ⟨es, c, ?_, h2⟩
  simp only [World.setCell, Array.getElem?_modify]
  split
  · rename_i e; rw [h]; rfl
  · exact h
theorem Mp.made (enc : α → Value) (w : World) : Mp enc (w.alloc (.map #[] 0)) w.heap.size [] :=
  ⟨#[], 0, by show (w.heap.push _)[w.heap.size]? = _; simp, rfl⟩

end

section
variable {α : Type} [DecidableEq α]

/-- The place of a key, and its value. -/
def findA (k : α) : List (α × Value) → Nat → Option (Nat × Value)
  | [], _ => none
  | p :: m, i => if k = p.1 then some (i, p.2) else findA k m (i + 1)

def getA (k : α) : List (α × Value) → Option Value
  | [] => none
  | p :: m => if k = p.1 then some p.2 else getA k m

def putA (k : α) (v : Value) : List (α × Value) → List (α × Value)
  | [] => [(k, v)]
  | p :: m => if k = p.1 then (k, v) :: m else p :: putA k v m

theorem findA_getA (k : α) : ∀ (m : List (α × Value)) (i : Nat), (findA k m i).map (·.2) = getA k m
  | [], _ => rfl
  | p :: m, i => by unfold findA getA; by_cases h : k = p.1 <;> simp [h, findA_getA k m]

theorem findA_none (k : α) : ∀ (m : List (α × Value)) (i : Nat) (v : Value), findA k m i = none → putA k v m = m ++ [(k, v)]
  | [], _, _, _ => rfl
  | p :: m, i, v, h => by
    unfold findA at h
    by_cases hk : k = p.1
    · rw [if_pos hk] at h; cases h
    · rw [if_neg hk] at h; unfold putA; rw [if_neg hk, findA_none k m _ v h]; rfl

theorem findA_some (k : α) : ∀ (m : List (α × Value)) (i j : Nat) (u v : Value), findA k m i = some (j, u) → i ≤ j ∧ j - i < m.length ∧ (m[j - i]?).map (·.1) = some k ∧ putA k v m = m.set (j - i) (k, v)
  | [], _, _, _, _, h => by cases h
  | p :: m, i, j, u, v, h => by
    unfold findA at h
    by_cases hk : k = p.1
    · rw [if_pos hk] at h; cases h
      simp [putA, hk]
    · rw [if_neg hk] at h
      obtain ⟨h1, h2, h3, h4⟩ := findA_some k m (i + 1) j u v h
      obtain ⟨d, rfl⟩ : ∃ d, j = i + 1 + d := ⟨j - (i + 1), by omega⟩
      have e1 : i + 1 + d - (i + 1) = d := by omega
      have e2 : i + 1 + d - i = d + 1 := by omega
      rw [e1] at h2 h3 h4
      rw [e2]
      refine ⟨by omega, by simp; omega, by simpa using h3, ?_⟩
      unfold putA; rw [if_neg hk, h4]; rfl

theorem getA_put_same (k : α) (v : Value) : ∀ m : List (α × Value), getA k (putA k v m) = some v
  | [] => by simp [putA, getA]
  | p :: m => by unfold putA; by_cases h : k = p.1 <;> simp [h, getA, getA_put_same k v m]

theorem getA_put_other {k k' : α} (hk : k' ≠ k) (v : Value) : ∀ m : List (α × Value), getA k' (putA k v m) = getA k' m
  | [] => by simp [putA, getA, hk]
  | p :: m => by
    unfold putA
    by_cases h : k = p.1
    · rw [if_pos h]; unfold getA; rw [if_neg hk, if_neg (h ▸ hk)]
    · rw [if_neg h]; unfold getA; rw [getA_put_other hk v m]

theorem mem_put {k : α} {v : Value} : ∀ {m : List (α × Value)} {p : α × Value}, p ∈ putA k v m → p = (k, v) ∨ p ∈ m
  | [], p, h => by simp [putA] at h; exact .inl h
  | q :: m, p, h => by
    unfold putA at h
    by_cases hk : k = q.1
    · rw [if_pos hk] at h
      rcases List.mem_cons.1 h with h | h
      · exact .inl h
      · exact .inr (List.mem_cons_of_mem _ h)
    · rw [if_neg hk] at h
      rcases List.mem_cons.1 h with h | h
      · exact .inr (h ▸ List.mem_cons_self ..)
      · rcases mem_put h with h | h
        · exact .inl h
        · exact .inr (List.mem_cons_of_mem _ h)

/-- The keys of a type: how they stand as values; that a look-up finds them. -/
structure Keys (P : Program) (kt : TypeId) (enc : α → Value) : Prop where
  check : ∀ b k w, (Instr.checkKey b 10000 kt (enc k)).run P w = .ok () w
  find : ∀ k (es : List MapEntry) (m : List (α × Value)) w, es.map (fun e => (e.key, e.val)) = m.map (fun p => (enc p.1, p.2)) → (Instr.findKey kt (enc k) es).run P w = .ok (findA k m 0) w
  bits : ∀ k, Instr.sameBits 10000 (enc k) (enc k) = true

theorem run_lookup {P : Program} {T kt el : TypeId} {enc : α → Value} (K : Keys P kt enc) (hT : P.underlying T = some (.map kt el)) {z : Value} (hz : ∀ w, (zeroValue el).run P w = .ok z w)
    {w : World} {M : Nat} {m : List (α × Value)} (h : Mp enc w M m) (k : α) (ok : Bool) :
    (Instr.lookup T (.map (some M)) (enc k) ok).run P w = .ok (if ok then .tuple #[(getA k m).getD z, .bool (getA k m).isSome] else (getA k m).getD z) w := by
  obtain ⟨es, c, hm, he⟩ := h
  have hf := K.find k es.toList m w he
  have hg := findA_getA k m 0
  cases hx : findA k m 0 with
  | none =>
    rw [hx] at hg hf
    simp only [Option.map_none] at hg
    simp [Instr.lookup, run_underlying hT, getObj, Sem.run, hm, K.check, hf, hz, ← hg]
  | some p =>
    obtain ⟨i, v⟩ := p
    rw [hx] at hg hf
    simp only [Option.map_some] at hg
    simp [Instr.lookup, run_underlying hT, getObj, Sem.run, hm, K.check, hf, ← hg]

theorem run_update {P : Program} {T kt el : TypeId} {enc : α → Value} (K : Keys P kt enc) (hT : P.underlying T = some (.map kt el))
    {w : World} {M : Nat} {m : List (α × Value)} (h : Mp enc w M m) (k : α) (v : Value) :
    ∃ w', (Instr.mapUpdate T (.map (some M)) (enc k) v).run P w = .ok () w' ∧ Mp enc w' M (putA k v m) ∧ w.grownBy w' (some M) ∧ w'.heap.size = w.heap.size := by
  obtain ⟨es, c, hm, he⟩ := h
  have hf := K.find k es.toList m w he
  cases hx : findA k m 0 with
  | none =>
    rw [hx] at hf
    refine ⟨{ w with heap := w.heap.setIfInBounds M (.map (es.push { key := enc k, val := v, born := c }) (c + 1)) }, ?_, ⟨es.push { key := enc k, val := v, born := c }, c + 1, ?_, ?_⟩, ?_, ?_⟩
    · simp [Instr.mapUpdate, run_underlying hT, getObj, setObj, Sem.run, hm, K.check, hf]
    · show (w.heap.setIfInBounds M _)[M]? = _
      rw [Array.getElem?_setIfInBounds_self_of_lt (Array.getElem?_eq_some_iff.1 hm).1]
    · rw [findA_none k m 0 v hx]; simp [he]
    · exact ⟨rfl, rfl, rfl, by simp, fun i hi hn => by show (w.heap.setIfInBounds M _)[i]? = _; rw [Array.getElem?_setIfInBounds_ne (fun e => hn (by rw [e]))]⟩
    · simp
  | some p =>
    obtain ⟨i, u⟩ := p
    obtain ⟨-, h2, h3, h4⟩ := findA_some k m 0 i u v hx
    simp only [Nat.sub_zero] at h2 h3 h4
    rw [hx] at hf
    have hlen : es.size = m.length := by have := congrArg List.length he; simpa using this
    have hi : i < es.size := by omega
    have hk : (es[i]).key = enc k := by
      have := congrArg (fun l => l[i]?) he
      simp only [List.getElem?_map] at this
      rw [show es.toList[i]? = some es[i] from by simp [hi]] at this
      cases hmi : m[i]? with
      | none => rw [hmi] at h3; cases h3
      | some q =>
        rw [hmi] at h3 this
        simp at h3 this
        rw [this.1, h3]
    refine ⟨{ w with heap := w.heap.setIfInBounds M (.map (es.modify i fun e => { e with key := enc k, val := v }) c) }, ?_, ⟨es.modify i fun e => { e with key := enc k, val := v }, c, ?_, ?_⟩, ?_, ?_⟩
    · simp [Instr.mapUpdate, run_underlying hT, getObj, setObj, Sem.run, hm, K.check, hf, Instr.keyThatStays, hi, hk, K.bits]
    · show (w.heap.setIfInBounds M _)[M]? = _
      rw [Array.getElem?_setIfInBounds_self_of_lt (Array.getElem?_eq_some_iff.1 hm).1]
    · rw [h4, List.map_set, ← he]
      apply List.ext_getElem?
      intro j
      simp only [Array.toList_modify, List.getElem?_map, List.getElem?_modify, List.getElem?_set, List.length_map, Array.length_toList]
      by_cases hj : i = j
      · subst hj; simp [hi]
      · simp [hj]
    · exact ⟨rfl, rfl, rfl, by simp, fun i hi hn => by show (w.heap.setIfInBounds M _)[i]? = _; rw [Array.getElem?_setIfInBounds_ne (fun e => hn (by rw [e]))]⟩
    · simp

theorem findNow_eq {kind : TypeDesc} {enc : α → Value} (hs : ∀ k k', Instr.sameNow kind (enc k) (enc k') = some (decide (k = k'))) (k : α) :
    ∀ (es : List MapEntry) (m : List (α × Value)) (i : Nat), es.map (fun e => (e.key, e.val)) = m.map (fun p => (enc p.1, p.2)) → Instr.findNow kind (enc k) es i = some (findA k m i)
  | [], [], _, _ => rfl
  | [], _ :: _, _, h => by simp at h
  | _ :: _, [], _, h => by simp at h
  | e :: es, p :: m, i, h => by
    simp only [List.map_cons, List.cons.injEq, Prod.mk.injEq] at h
    unfold Instr.findNow findA
    rw [h.1.1, hs]
    by_cases hk : k = p.1
    · simp [hk, h.1.2]
    · simp [hk, findNow_eq hs k es m (i + 1) h.2]

theorem keys_now {P : Program} {kt : TypeId} {kind : TypeDesc} {enc : α → Value} (hu : P.underlying kt = some kind) (hc : ∀ b k w, (Instr.checkKey b 10000 kt (enc k)).run P w = .ok () w)
    (hs : ∀ k k', Instr.sameNow kind (enc k) (enc k') = some (decide (k = k'))) (hb : ∀ k, Instr.sameBits 10000 (enc k) (enc k) = true) : Keys P kt enc where
  check := hc
  find := fun k es m w h => by simp [Instr.findKey, run_underlying hu, findNow_eq hs k es m 0 h]
  bits := hb

section
variable {P : Program} {ops : Array Oper} {Q : Exit → Act → World → Prop} {a : Act} {w : World} {rest : List Oper} {dst : Option Tmp} {type : TypeId} {pos : String} {after : Array Edge} {mo ko : Operand} {T kt el : TypeId}

theorem wpList_look_ok {enc : α → Value} (K : Keys P kt enc) (hT : P.underlying T = some (.map kt el)) {z : Value} (hz : ∀ w, (zeroValue el).run P w = .ok z w) {M : Nat} {m : List (α × Value)}
    (h : Mp enc w M m) (k : α) (hm : a.eval mo = .map (some M)) (hk : a.eval ko = enc k) (hr : wpList P ops Q rest (a.put dst (.tuple #[(getA k m).getD z, .bool (getA k m).isSome])) w) :
    wpList P ops Q ({ dst, op := .lookup T mo ko true, type, pos, after, guard := none } :: rest) a w := by
  refine wpList_plain rfl fun _ hK => ?_
  unfold Oper.wp
  have := run_lookup K hT hz h k true
  simp only [execOp, hm, hk, this, Sem.run_bind, Sem.run_pure, Result.andThen_ok, Oper.upon]
  exact hK _ _ hr

theorem wpList_look {enc : α → Value} (K : Keys P kt enc) (hT : P.underlying T = some (.map kt el)) {z : Value} (hz : ∀ w, (zeroValue el).run P w = .ok z w) {M : Nat} {m : List (α × Value)}
    (h : Mp enc w M m) (k : α) (hm : a.eval mo = .map (some M)) (hk : a.eval ko = enc k) (hr : wpList P ops Q rest (a.put dst ((getA k m).getD z)) w) :
    wpList P ops Q ({ dst, op := .lookup T mo ko false, type, pos, after, guard := none } :: rest) a w := by
  refine wpList_plain rfl fun _ hK => ?_
  unfold Oper.wp
  have := run_lookup K hT hz h k false
  simp only [execOp, hm, hk, this, Sem.run_bind, Sem.run_pure, Result.andThen_ok, Oper.upon]
  exact hK _ _ hr

theorem wpList_mput {enc : α → Value} (K : Keys P kt enc) (hT : P.underlying T = some (.map kt el)) {M : Nat} {m : List (α × Value)} {vo : Operand}
    (h : Mp enc w M m) (k : α) (v : Value) (hm : a.eval mo = .map (some M)) (hk : a.eval ko = enc k) (hv : a.eval vo = v)
    (hr : ∀ w', Mp enc w' M (putA k v m) → w.grownBy w' (some M) → w'.heap.size = w.heap.size → wpList P ops Q rest a w') :
    wpList P ops Q ({ dst := none, op := .mapUpdate T mo ko vo, type, pos, after, guard := none } :: rest) a w := by
  refine wpList_plain rfl fun _ hK => ?_
  unfold Oper.wp
  obtain ⟨w', h1, h2, h3, h4⟩ := run_update K hT h k v
  simp only [execOp, hm, hk, hv, h1, Sem.run_bind, Sem.run_pure, Result.andThen_ok, Oper.upon]
  exact hK _ _ (hr w' h2 h3 h4)
end
end

/-- The variables, as keys of a substitution. -/
def encV (i : Fin 3) : Value := .int .u8 (vI i)
/-- Bytes. -/
def encB (c : UInt8) : Value := .int .u8 (c.toNat : Int)
/-- Strings. -/
def encS (l : List UInt8) : Value := .string ⟨l.toArray⟩

theorem keysV : Keys Tryz.prog 131 encV := keys_now (kind := .int .u8) (by kernel_rfl) (fun b k w => by kernel_rfl)
  (fun k k' => by
    simp only [encV, Instr.sameNow, if_true]
    congr 1
    by_cases h : k = k'
    · simp [h]
    · simp only [h, decide_false, beq_eq_false_iff_ne, ne_eq, vI]; intro e; exact h (Fin.ext (by omega))) (fun k => by simp [encV, Instr.sameBits])

theorem keysB : Keys Tryz.prog 5 encB := keys_now (kind := .int .u8) (by kernel_rfl) (fun b k w => by kernel_rfl)
  (fun k k' => by
    simp only [encB, Instr.sameNow, if_true]
    congr 1
    by_cases h : k = k'
    · simp [h]
    · simp only [h, decide_false, beq_eq_false_iff_ne, ne_eq, Int.natCast_inj]; intro e; exact h (UInt8.toNat_inj.1 e)) (fun k => by simp [encB, Instr.sameBits])

theorem bytes_beq (a b : List UInt8) : (({ data := a.toArray } : ByteArray) == { data := b.toArray }) = (a.toArray == b.toArray) := rfl

theorem keysS : Keys Tryz.prog 9 encS := keys_now (kind := .string) (by kernel_rfl) (fun b k w => by kernel_rfl)
  (fun k k' => by
    simp only [encS, Instr.sameNow, bytes_beq]
    congr 1
    by_cases h : k = k'
    · simp [h]
    · simp only [h, decide_false, beq_eq_false_iff_ne, ne_eq]; intro e; exact h (List.toArray_inj e)) (fun k => by simp [encS, Instr.sameBits, bytes_beq])

end Go.Proofs.YtholmlkjcobkdaaGreat
