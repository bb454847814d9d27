/- How a precedence is made of a string. -/
import Derived.Test.YtholmlkjcobkdaaGreatPrec
import Derived.Maps.OwnSet
namespace Go.Proofs.YtholmlkjcobkdaaGreat
set_option linter.all false
set_option linter.unusedSimpArgs false
set_option linter.unusedVariables false
open Go.RowKit
set_option maxRecDepth 100000

theorem run_len_mp {α : Type} {P : Program} {enc : α → Value} {w : World} {M : Nat} {m : List (α × Value)} {T kt el : TypeId} (hT : P.underlying T = some (.map kt el)) (h : Mp enc w M m) (ty : TypeId) :
    (Builtin.len_ #[T] ty #[.map (some M)]).run P w = .ok (.int .i64 m.length) w := by
  obtain ⟨es, c, hm, he⟩ := h
  have hl : es.size = m.length := by have := congrArg List.length he; simpa using this
  simp [Builtin.len_, run_underlying hT, getObj, Sem.run, hm, goInt, Result.andThen, hl]

/-- The ranks after d bytes. -/
def rankM (s : Str) : Nat → List (UInt8 × Value)
  | 0 => []
  | d + 1 => match s[d]? with
    | some c => putA c (.int .i64 d) (rankM s d)
    | none => rankM s d

/-- The last place of a byte. -/
def lastI (s : Str) (c : UInt8) : Nat → Option Nat
  | 0 => none
  | d + 1 => if s[d]? = some c then some d else lastI s c d

theorem getA_rankM (s : Str) (c : UInt8) : ∀ d, getA c (rankM s d) = (lastI s c d).map fun i => .int .i64 i
  | 0 => rfl
  | d + 1 => by
    unfold rankM lastI
    cases h : s[d]? with
    | none => simpa using getA_rankM s c d
    | some e =>
      by_cases he : c = e
      · subst he; simp [getA_put_same]
      · simp only [getA_put_other he, getA_rankM s c d]
        rw [if_neg (by simpa using fun h => he h.symm)]

def symsB : List UInt8 := [97, 98, 99, 100, 101, 102]

/-- Whether a string is a precedence. -/
def okPrec (s : Str) : Bool := decide (s.length = 6) && symsB.all fun c => decide (c ∈ s)

/-- The rank of a symbol. -/
def rkOf (s : Str) (c : Int) : Int := (((lastI s (UInt8.ofNat c.toNat) s.length).getD 0 : Nat) : Int)

theorem lastI_some {s : Str} {c : UInt8} : ∀ {d : Nat}, (lastI s c d).isSome = true ↔ c ∈ s.take d
  | 0 => by simp [lastI]
  | d + 1 => by
    unfold lastI
    rw [List.take_add_one, List.mem_append]
    by_cases h : s[d]? = some c
    · simp [h]
    · rw [if_neg h, lastI_some (d := d)]
      constructor
      · exact .inl
      · rintro (h1 | h1)
        · exact h1
        · exact absurd (by simpa using h1) h

theorem putA_length (c : UInt8) (v : Value) : ∀ m : List (UInt8 × Value), m.length ≤ (putA c v m).length ∧ (putA c v m).length ≤ m.length + 1
  | [] => by simp [putA]
  | p :: m => by
    unfold putA
    split
    · simp
    · have := putA_length c v m; simp; omega

theorem rankM_length (s : Str) : ∀ d, (rankM s d).length ≤ d
  | 0 => by simp [rankM]
  | d + 1 => by
    unfold rankM
    have := rankM_length s d
    cases s[d]? with
    | none => simp only; omega
    | some c => have := putA_length c (.int .i64 d) (rankM s d); simp only; omega

theorem getA_mem {c : UInt8} : ∀ {m : List (UInt8 × Value)}, (getA c m).isSome = true → c ∈ m.map (·.1)
  | [], h => by simp [getA] at h
  | p :: m, h => by
    unfold getA at h
    by_cases hc : c = p.1
    · simp [hc]
    · rw [if_neg hc] at h; simp only [List.map_cons, List.mem_cons]; exact .inr (getA_mem h)

theorem nodup_sub {α : Type} [DecidableEq α] : ∀ {l m : List α}, l.Nodup → (∀ c ∈ l, c ∈ m) → l.length ≤ m.length
  | [], _, _, _ => Nat.zero_le _
  | a :: l, m, hn, hs => by
    have ha := hs a (List.mem_cons_self ..)
    have hn' := List.nodup_cons.1 hn
    have ih := nodup_sub (l := l) (m := m.erase a) hn'.2 fun c hc => (List.mem_erase_of_ne (fun e => hn'.1 (by rw [← e]; exact hc))).2 (hs c (List.mem_cons_of_mem _ hc))
    rw [List.length_erase_of_mem ha] at ih
    have := List.length_pos_of_mem ha
    simp only [List.length_cons]
    omega

theorem okPrec_len {s : Str} (h : okPrec s = true) : (rankM s s.length).length = s.length := by
  simp only [okPrec, Bool.and_eq_true, decide_eq_true_eq, List.all_eq_true] at h
  have h1 := rankM_length s s.length
  have h2 : ∀ c ∈ symsB, c ∈ (rankM s s.length).map (·.1) := by
    intro c hc
    refine getA_mem ?_
    rw [getA_rankM, Option.isSome_map, lastI_some, List.take_length]
    exact h.2 c hc
  have hnd : symsB.Nodup := by decide
  have h3 : symsB.length ≤ ((rankM s s.length).map (·.1)).length := nodup_sub hnd h2
  rw [List.length_map] at h3
  have : symsB.length = 6 := rfl
  omega

/-- What making a precedence comes to. -/
def MadeP (s : Str) (w : World) (e : Ending) (w' : World) : Prop :=
  (okPrec s = true ∧ ∃ R K, e = .returned (.agg #[.map (some R), .map (some K)]) ∧ GW (rkOf s) R K w' ∧ Ext w w' ∧ w.heap.size ≤ K) ∨ (okPrec s = false ∧ e = .panicked (tr 2) ∧ Ext w w')

set_option maxHeartbeats 2000000 in
theorem newPrec_any (s : Str) (w : World) (hs : s.length ≤ 1000000000) : Calls Tryz.prog 87 #[encS s] w (MadeP s w) := by
  have hmm := @run_makeMap Tryz.prog
  unfold encS
  go_enter Tryz.func87, Tryz.ntmps87
  go_wp2_with fail
  obtain ⟨W0, hW0, hbr, hmr, hmk, hbp, hE⟩ : ∃ W0, (((w.alloc (.cells #[.map none, .map none] 120)).alloc (.map #[] 0)).alloc (.map #[] 0)).alloc (.cells #[.map (some (w.heap.size + 1)), .map (some (w.heap.size + 1 + 1))] 120) = W0 ∧
      Bx W0 w.heap.size #[.map none, .map none] 120 ∧ Mp encB W0 (w.heap.size + 1) [] ∧ Mp encSS W0 (w.heap.size + 1 + 1) [] ∧ Bx W0 (w.heap.size + 1 + 1 + 1) #[.map (some (w.heap.size + 1)), .map (some (w.heap.size + 1 + 1))] 120 ∧ Ext w W0 := by
    refine ⟨_, rfl, (((Bx.new _ _ _).alloc _).alloc _).alloc _, ?_, ?_, ?_, (((Ext.new _ _).alloc _).alloc _).alloc _⟩
    · have h := ((Mp.made encB (w.alloc (.cells #[.map none, .map none] 120))).alloc (.map #[] 0)).alloc (.cells #[.map (some (w.heap.size + 1)), .map (some (w.heap.size + 1 + 1))] 120)
      rwa [World.size_alloc] at h
    · have h := (Mp.made encSS ((w.alloc (.cells #[.map none, .map none] 120)).alloc (.map #[] 0))).alloc (.cells #[.map (some (w.heap.size + 1)), .map (some (w.heap.size + 1 + 1))] 120)
      rwa [World.size_alloc, World.size_alloc] at h
    · have h := Bx.new (((w.alloc (.cells #[.map none, .map none] 120)).alloc (.map #[] 0)).alloc (.map #[] 0)) #[.map (some (w.heap.size + 1)), .map (some (w.heap.size + 1 + 1))] 120
      rwa [World.size_alloc, World.size_alloc, World.size_alloc] at h
  rw [hW0]
  generalize hn : w.heap.size = n at *
  have HBr := Lib.hid hbr
  have HMr := Lib.hid hmr
  have HMk := Lib.hid hmk
  have HBp := Lib.hid hbp
  have HE := Lib.hid hE
  have HN := Lib.hid hn
  clear hW0 hbr hmr hmk hbp hE hn
  go_loopg [13] s.length (fun k i wr => ∃ d, d + k = s.length ∧ i = .int .i64 d ∧ Mp encB wr (n + 1) (rankM s d) ∧ W0.grownBy wr (some (n + 1)))
  case atStart => exact ⟨0, by simp, rfl, HMr.out, (Ext.refl _).grows' _⟩
  case round =>
    obtain ⟨d, hd, rfl, hm, hg⟩ := hrel
    have HM := Lib.hid hm
    have HG := Lib.hid hg
    have hbp := HBp.out.grown hg (ne_some (by omega))
    have hbr := HBr.out.grown hg (ne_some (by omega))
    have HBr' := Lib.hid hbr
    have c0 := hbp.at 0 (y := .map (some (n + 1))) rfl
    have c1 := hbp.at 1 (y := .map (some (n + 1 + 1))) rfl
    have HBp' := Lib.hid hbp
    clear hm hg hbp hbr
    cases gk with
    | succ k =>
      have hdl : d < s.length := by omega
      have hdl' : (d : Int) < (s.length : Int) := by omega
      have hd2 : (d : Int) + 1 ≤ 1000000001 := by omega
      obtain ⟨c, hc⟩ : ∃ c, s[d]? = some c := ⟨_, List.getElem?_eq_getElem hdl⟩
      go_wp2_with fail
      go_still_tail 6, (by kernel_rfl)
      change wpList _ _ _ _ _ wr.drew
      have hcv : (.int .u8 (({ data := s.toArray } : ByteArray)[d]'(by simpa [ByteArray.size] using hdl)).toNat : Value) = encB c := by
        have h1 : s[d] = c := by have := List.getElem?_eq_getElem hdl; rw [hc] at this; exact (Option.some.inj this).symm
        rw [encB, ← h1]; rfl
      have HCv := Lib.hid hcv
      have HC := Lib.hid hc
      clear hcv hc
      go_wp2_with ((at_mapUpdate; refine wpList_mput keysB under_rank (w := wr.drew) HM.out c (.int .i64 d) (by rfl) HCv.out (by rfl) ?_); rintro w5 hm5 hg5 hz5; have HM5 := Lib.hid hm5; have HG5 : Hid (W0.grownBy w5 (some (n + 1))) := Lib.hid (HG.out.trans ((Ext.refl wr).drew.grows' _ |>.trans hg5)); clear hm5 hg5 hz5)
      go_roundg k
      case measure => omega
      case rel => exact ⟨d + 1, by omega, congrArg (Value.int .i64) (by omega), by rw [rankM, HC.out]; exact HM5.out, HG5.out⟩
    | zero =>
      obtain rfl : d = s.length := by omega
      have hln := fun ty => run_len_mp under_rank HM.out ty
      have HMk' := Lib.hid (Mp.grown HMk.out HG.out (ne_some (by omega)))
      have hE' : Ext w wr := HE.out.grown HG.out (some_le (by have := HN.out; omega))
      have HE' := Lib.hid hE'
      clear hE' HE HBp HBr HMr HMk HG
      by_cases h6 : s.length = 6
      · have g1 : ((s.length : Int) == 6) = true := by simp [h6]
        by_cases hl : (rankM s s.length).length = s.length
        · have g2 : (((rankM s s.length).length : Int) == (s.length : Int)) = true := by simp [hl]
          have H6 := Lib.hid h6
          have HL := Lib.hid hl
          clear h6 hl
          go_wp2_with ((with_reducible refine (demand_yes _ _).mono ?_); rintro e w2 ⟨rfl, rfl⟩)
          clear hln g1 g2
          obtain ⟨W1, rfl⟩ : ∃ W1 : World, W1 = wr := ⟨_, rfl⟩
          go_loopg [35] 6 (fun k i wr => ∃ d, d + k = 6 ∧ i = .int .i64 d ∧ Ext W1 wr ∧ ∀ c ∈ symsB.take d, c ∈ s)
          case atStart => exact ⟨0, rfl, rfl, Ext.refl _, fun c hc => by simp at hc⟩
          case round =>
            obtain ⟨d, hd, rfl, hE, hall⟩ := hrel
            have HE2 := Lib.hid hE
            have HAll := Lib.hid hall
            have k0 := hE.cell c0
            have k1 := hE.cell c1
            have HMw := Lib.hid (HM.out.ext hE)
            clear hE hall
            cases gk with
            | zero =>
              obtain rfl : d = 6 := by omega
              have ho : okPrec s = true := by
                have h := HAll.out
                simp only [okPrec, Bool.and_eq_true, decide_eq_true_eq, List.all_eq_true]
                exact ⟨H6.out, h⟩
              have HO := Lib.hid ho
              have HGW : Hid (GW (rkOf s) (n + 1) (n + 1 + 1) wr) := Lib.hid ⟨⟨_, HMw.out, fun c h1 h2 => ?_⟩, ⟨[], HMk'.out.ext HE2.out, fun _ _ => .inl rfl⟩, by omega⟩
              rotate_left
              · rw [getA_rankM, rkOf]
                have hc : c ∈ s := by
                  simp only [okPrec, Bool.and_eq_true, decide_eq_true_eq, List.all_eq_true] at ho
                  refine ho.2 c ?_
                  have h3 : c = UInt8.ofNat c.toNat := by simp
                  rw [h3]
                  generalize c.toNat = m at h1 h2
                  have : m = 97 ∨ m = 98 ∨ m = 99 ∨ m = 100 ∨ m = 101 ∨ m = 102 := by omega
                  rcases this with rfl | rfl | rfl | rfl | rfl | rfl <;> decide
                have h4 : (lastI s c s.length).isSome = true := by rw [lastI_some, List.take_length]; exact hc
                obtain ⟨i, hi⟩ := Option.isSome_iff_exists.1 h4
                simp [hi]
              have b0 := (HBr'.out.ext HE2.out).at 0 (y := .map none) rfl
              have b1 := (HBr'.out.ext HE2.out).at 1 (y := .map none) rfl
              have bf := (HBr'.out.ext HE2.out).free
              have hlt := (HBr'.out.ext HE2.out).lt
              clear ho
              go_wp2_with fail
              have hb := ((HBr'.out.ext HE2.out).set 0 (.map (some (n + 1)))).set 1 (.map (some (n + 1 + 1)))
              have r0 := hb.at 0 (y := .map (some (n + 1))) rfl
              have r1 := hb.at 1 (y := .map (some (n + 1 + 1))) rfl
              have hg2 := (grown_set wr ⟨n, 0, none⟩ (.map (some (n + 1)))).trans (grown_set _ ⟨n, 1, none⟩ (.map (some (n + 1 + 1))))
              refine bodyPost_ret (v := .agg #[.map (some (n + 1)), .map (some (n + 1 + 1))]) (by simp [results, Tryz.results87, go_sem, r0, r1]) rfl (.inl ⟨HO.out, n + 1, n + 1 + 1, rfl, ?_, ?_, by have := HN.out; omega⟩)
              · obtain ⟨⟨m1, hm1, hr1⟩, ⟨m2, hm2, hk2⟩, hne⟩ := HGW.out
                exact ⟨⟨m1, hm1.grown hg2 (ne_some (show n + 1 ≠ n by omega)), hr1⟩, ⟨m2, hm2.grown hg2 (ne_some (show n + 1 + 1 ≠ n by omega)), hk2⟩, hne⟩
              · exact (HE'.out.trans HE2.out).grown hg2 (some_le (show w.heap.size ≤ n by have := HN.out; omega))
            | succ k =>
              obtain ⟨c, hc⟩ : ∃ c, symsB[d]? = some c := ⟨_, List.getElem?_eq_getElem (by show d < 6; omega)⟩
              have hdl : (d : Int) < 6 := by omega
              have hix : ∀ W, (Instr.index 9 (.string { data := #[97, 98, 99, 100, 101, 102] }) (.int .i64 d)).run Tryz.prog W = .ok (encB c) W := by
                have : d = 0 ∨ d = 1 ∨ d = 2 ∨ d = 3 ∨ d = 4 ∨ d = 5 := by omega
                rcases this with rfl | rfl | rfl | rfl | rfl | rfl <;> (cases hc; intro W; kernel_rfl)
              have hlk : ∀ j, (Instr.lookup 117 (.map (some (n + 1))) (encB c) true).run Tryz.prog (wr.drewN j) = .ok (.tuple #[(getA c (rankM s s.length)).getD (.int .i64 0), .bool (getA c (rankM s s.length)).isSome]) (wr.drewN j) :=
                fun j => run_lookup keysB under_rank zero_int (w := wr.drewN j) HMw.out c true
              have hsm : (getA c (rankM s s.length)).isSome = decide (c ∈ s) := by
                rw [getA_rankM, Option.isSome_map, Bool.eq_iff_iff, lastI_some, List.take_length]; simp
              rw [hsm] at hlk
              have HC := Lib.hid hc
              clear hsm hc
              go_wp2_with fail
              go_quiet (fail)
              by_cases hin : c ∈ s
              · rw [decide_eq_true hin]
                have HIn := Lib.hid hin
                clear hin hlk
                go_wp2_with ((with_reducible refine (demand_yes _ _).mono ?_); rintro e w2 ⟨rfl, rfl⟩)
                go_roundg k
                case measure => omega
                case rel =>
                  refine ⟨d + 1, by omega, congrArg (Value.int .i64) (by omega), ?_, fun c' hc' => ?_⟩
                  · exact ⟨HE2.out.os, HE2.out.tape, HE2.out.output, HE2.out.size, HE2.out.block⟩
                  · rw [List.take_add_one, HC.out] at hc'
                    rcases List.mem_append.1 hc' with h | h
                    · exact HAll.out c' h
                    · simp at h; subst h; exact HIn.out
              · rw [decide_eq_false hin]
                have HIn := Lib.hid hin
                clear hin hlk
                go_wp2_with ((with_reducible refine (demand_no _ _).mono ?_); rintro e w2 ⟨rfl, rfl⟩)
                refine ⟨rfl, .inr ⟨?_, rfl, HE'.out.trans ⟨HE2.out.os, HE2.out.tape, HE2.out.output, HE2.out.size, HE2.out.block⟩⟩⟩
                have hm : c ∈ symsB := List.mem_of_getElem? HC.out
                by_cases ho : okPrec s = true
                · simp only [okPrec, Bool.and_eq_true, decide_eq_true_eq, List.all_eq_true] at ho
                  exact absurd (ho.2 c hm) HIn.out
                · simpa using ho
        · have g2 : (((rankM s s.length).length : Int) == (s.length : Int)) = false := by rw [beq_eq_false_iff_ne]; intro h; exact hl (by omega)
          have H6 := Lib.hid h6
          have HL := Lib.hid hl
          clear h6 hl
          go_wp2_with ((with_reducible refine (demand_no _ _).mono ?_); rintro e w2 ⟨rfl, rfl⟩)
          refine ⟨rfl, .inr ⟨?_, rfl, HE'.out⟩⟩
          by_cases ho : okPrec s = true
          · exact absurd (okPrec_len ho) HL.out
          · simpa using ho
      · have g1 : ((s.length : Int) == 6) = false := by simp; omega
        have H6 := Lib.hid h6
        clear h6
        go_wp2_with ((with_reducible refine (demand_no _ _).mono ?_); rintro e w2 ⟨rfl, rfl⟩)
        exact ⟨rfl, .inr ⟨by simp [okPrec, H6.out], rfl, HE'.out⟩⟩

end Go.Proofs.YtholmlkjcobkdaaGreat
