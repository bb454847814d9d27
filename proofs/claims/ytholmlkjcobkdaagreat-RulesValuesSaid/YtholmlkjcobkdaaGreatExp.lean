/- What the exported functions have in common: a closure behind 'guard' that fills one variable. -/
import Derived.Test.YtholmlkjcobkdaaGreatTexts
namespace Go.Proofs.YtholmlkjcobkdaaGreat
set_option linter.all false
set_option linter.unusedSimpArgs false
set_option linter.unusedVariables false
open Go.RowKit
set_option maxRecDepth 100000

/-- What a closure comes to that fills the variable O, or reports an error. -/
def Ran {α : Type} (T : TypeId) (r : Except Int α) (O : Nat) (Out : World → Value → α → Prop) (W : World) (e : Ending) (W' : World) : Prop :=
  (∃ a v, r = .ok a ∧ e = .returned (.tuple #[]) ∧ Bx W' O #[v] T ∧ Out W' v a ∧ W.grownBy W' (some O)) ∨ (∃ n, r = .error n ∧ e = .panicked (tr n) ∧ Ext W W')

/-- The same behind 'guard'. -/
def GRan {α : Type} (T : TypeId) (r : Except Int α) (O : Nat) (Out : World → Value → α → Prop) (W : World) (e : Ending) (W' : World) : Prop :=
  (∃ a v, r = .ok a ∧ e = .returned (.int .i64 0) ∧ Bx W' O #[v] T ∧ Out W' v a ∧ W.grownBy W' (some O)) ∨ (∃ n, r = .error n ∧ e = .returned (.int .i64 n) ∧ Ext W W')

theorem guard_ran {α : Type} (T : TypeId) (r : Except Int α) (O : Nat) (Out : World → Value → α → Prop) (g : FuncId) (caps : Array Value) (hg : ∀ xs W, (callFunc g xs).run Tryz.prog W = .ok (.enter g xs) W) (W : World) (hO : O < W.heap.size)
    (hf : Calls Tryz.prog g caps (W.alloc (.cells #[.int .i64 0] 26)) (Ran T r O Out (W.alloc (.cells #[.int .i64 0] 26))))
    (hOut : ∀ W1 W2 v a, Out W1 v a → W1.grownBy W2 (some W.heap.size) → Out W2 v a) :
    Calls Tryz.prog 65 #[.func (.func g) #[] caps] W (GRan T r O Out W) := by
  have hg0 := Bx.new W #[.int .i64 0] 26
  refine (guard_any g caps hg W _ hf ?_).mono ?_
  · intro e w1 hr
    have hb : Bx w1 W.heap.size #[.int .i64 0] 26 := by
      rcases hr with ⟨a, v, _, _, _, _, hgr⟩ | ⟨n, _, _, hx⟩
      · exact hg0.grown hgr (ne_some (by omega))
      · exact hg0.ext hx
    refine ⟨hb.lt, hb.cell 0, hb.free 0, ?_⟩
    rcases hr with ⟨a, v, _, h, _⟩ | ⟨n, _, h, _⟩
    · exact .inl h
    · exact .inr ⟨n, h⟩
  · rintro e w' ⟨e1, w1, n, hr, hgr, rfl, hc⟩
    rcases hr with ⟨a, v, ho, rfl, hb, hout, hg1⟩ | ⟨k, ho, rfl, hx⟩
    · obtain rfl : n = 0 := by
        rcases hc with ⟨_, h⟩ | h
        · exact h
        · cases h
      refine .inl ⟨a, v, ho, rfl, hb.grown hgr (ne_some (by omega)), hOut _ _ _ _ hout hgr, ⟨hgr.os.trans hg1.os, hgr.tape.trans hg1.tape, hgr.output.trans hg1.output, ?_, fun k hk hn => ?_⟩⟩
      · have h1 := hg1.size
        have h2 := hgr.size
        simp at h1
        omega
      · have h1 := hg1.block k (by simp; omega) hn
        have h2 := hgr.block k (by have := hg1.size; simp at this; omega) (ne_some (by omega))
        rw [h2, h1]
        exact Below.heap_alloc _ _ _ hk
    · obtain rfl : n = k := by
        rcases hc with ⟨h, _⟩ | h
        · cases h
        · exact trn_inj h
      exact .inr ⟨n, ho, rfl, ((Ext.new W _).trans hx).grown hgr (some_le (Nat.le_refl _))⟩

theorem Ext.over {w W W' : World} {O : Nat} (h : Ext w W) (hg : W.grownBy W' (some O)) (hO : w.heap.size ≤ O) : Ext w W' := h.grown hg (some_le hO)

theorem boxes2 (w : World) (a : Array Value) (ta : TypeId) (b : Array Value) (tb : TypeId) : ∃ W0, (w.alloc (.cells a ta)).alloc (.cells b tb) = W0 ∧ Bx W0 w.heap.size a ta ∧ Bx W0 (w.heap.size + 1) b tb ∧ Ext w W0 ∧ W0.heap.size = w.heap.size + 2 := by
  refine ⟨_, rfl, (Bx.new w a ta).alloc _, ?_, (Ext.new _ _).alloc _, by simp⟩
  have h := Bx.new (w.alloc (.cells a ta)) b tb
  rwa [World.size_alloc] at h

theorem boxes3 (w : World) (a : Array Value) (ta : TypeId) (b : Array Value) (tb : TypeId) (c : Array Value) (tc : TypeId) :
    ∃ W0, ((w.alloc (.cells a ta)).alloc (.cells b tb)).alloc (.cells c tc) = W0 ∧ Bx W0 w.heap.size a ta ∧ Bx W0 (w.heap.size + 1) b tb ∧ Bx W0 (w.heap.size + 1 + 1) c tc ∧ Ext w W0 ∧ W0.heap.size = w.heap.size + 3 := by
  obtain ⟨W0, h, h0, h1, hE, hs⟩ := boxes2 w a ta b tb
  refine ⟨_, rfl, ?_⟩
  rw [h]
  refine ⟨h0.alloc _, h1.alloc _, ?_, hE.alloc _, by simp [hs]⟩
  have h := Bx.new W0 c tc
  rwa [hs] at h

theorem boxes4 (w : World) (a : Array Value) (ta : TypeId) (b : Array Value) (tb : TypeId) (c : Array Value) (tc : TypeId) (d : Array Value) (td : TypeId) :
    ∃ W0, (((w.alloc (.cells a ta)).alloc (.cells b tb)).alloc (.cells c tc)).alloc (.cells d td) = W0 ∧ Bx W0 w.heap.size a ta ∧ Bx W0 (w.heap.size + 1) b tb ∧ Bx W0 (w.heap.size + 1 + 1) c tc ∧ Bx W0 (w.heap.size + 1 + 1 + 1) d td ∧ Ext w W0 ∧ W0.heap.size = w.heap.size + 4 := by
  obtain ⟨W0, h, h0, h1, h2, hE, hs⟩ := boxes3 w a ta b tb c tc
  refine ⟨_, rfl, ?_⟩
  rw [h]
  refine ⟨h0.alloc _, h1.alloc _, h2.alloc _, ?_, hE.alloc _, by simp [hs]⟩
  have h := Bx.new W0 d td
  rwa [hs] at h

/-- The next terms as strings, or the error. -/
def nextR (rs : List (Str × Str)) (s : Str) : Except Int (List Str) :=
  match okLaws rs with
  | none => .error 2
  | some ls => match Tm.parse s with
    | none => .error 4
    | some t => if (nexts ls t).all (fun u => decide (u.size ≤ 60)) then .ok (asc ((nexts ls t).map Tm.text)) else .error 5

theorem okLaws_spec {rs : List (Str × Str)} {ls : List (Tm × Tm)} (h : okLaws rs = some ls) : ls.length ≤ 6 ∧ ∀ l ∈ ls, l.1.isV = false ∧ l.1.size ≤ 12 ∧ l.2.size ≤ 12 ∧ ∀ i, Tm.v i ∈ l.2.subs → Tm.v i ∈ l.1.subs := by
  unfold okLaws at h
  split at h
  · rename_i h6
    refine ⟨by rw [mapM_length _ _ _ h]; exact h6, ?_⟩
    clear h6
    induction rs generalizing ls with
    | nil => simp at h; subst h; intro l hl; cases hl
    | cons a rs ih =>
      rw [List.mapM_cons] at h
      cases ha : okLaw a with
      | none => rw [ha] at h; cases h
      | some a' =>
        rw [ha] at h
        cases hm : rs.mapM okLaw with
        | none => rw [hm] at h; cases h
        | some ls' =>
          rw [hm] at h
          cases h
          intro l hl
          rcases List.mem_cons.1 hl with rfl | hl
          · unfold okLaw at ha
            cases hb : bothT a.1 a.2 with
            | none => rw [hb] at ha; cases ha
            | some q =>
              rw [hb, Option.bind_some] at ha
              split at ha
              · rename_i hq; cases ha; exact hq
              · cases ha
          · exact ih hm l hl
  · cases h

theorem IsLaws.lt {S : Nat → Prop} {w : World} {v : Value} {ls : List (Tm × Tm)} (h : IsLaws S w v ls) : IsLaws (fun b => b < w.heap.size) w v ls := by
  rcases h with h | ⟨a, o, cap, xs, h1, h2, h3, h4, h5⟩
  · exact .inl h
  · exact .inr ⟨a, o, cap, xs, h1, h2, h3, h4, h5.keep fun _ _ _ _ hc => ⟨hc, lt_of_cell hc⟩⟩

theorem OwnS.slice {base : Nat} {w : World} {v : Value} {l : List Str} (h : OwnS base w v l) : ∃ p c, v = .slice p l.length c := by
  obtain ⟨_, ⟨rfl, h0⟩ | ⟨g, cap, cur, rfl, -⟩⟩ := h
  · exact ⟨none, 0, by rw [h0]⟩
  · exact ⟨_, _, rfl⟩

theorem nexts_few {rs : List (Str × Str)} {ls : List (Tm × Tm)} {s : Str} {t : Tm} (h : okLaws rs = some ls) (ht : Tm.parse s = some t) : (nexts ls t).length ≤ 1000000 := by
  have h1 := nexts_length ls t
  have h2 : ls.length * t.size ≤ 6 * 60 := Nat.mul_le_mul (okLaws_spec h).1 ((Tm.parse_iff _ _).1 ht).2
  omega

theorem nextR_big {rs : List (Str × Str)} {ls : List (Tm × Tm)} {s : Str} {t : Tm} (h : okLaws rs = some ls) (ht : Tm.parse s = some t) (hb : ∃ u ∈ nexts ls t, 60 < u.size) : nextR rs s = .error 5 := by
  obtain ⟨u, hu, hs⟩ := hb
  have : ¬ ((nexts ls t).all (fun u => decide (u.size ≤ 60)) = true) := by
    rw [List.all_eq_true]
    intro h
    have := h u hu
    simp at this
    omega
  simp only [nextR, h, ht, if_neg this]

theorem nextR_ok {rs : List (Str × Str)} {ls : List (Tm × Tm)} {s : Str} {t : Tm} (h : okLaws rs = some ls) (ht : Tm.parse s = some t) (hb : ∀ u ∈ nexts ls t, u.size ≤ 60) : nextR rs s = .ok (asc ((nexts ls t).map Tm.text)) := by
  have : (nexts ls t).all (fun u => decide (u.size ≤ 60)) = true := by
    rw [List.all_eq_true]
    intro u hu
    simpa using hb u hu
  simp only [nextR, h, ht, if_pos this]

theorem next1_any (rs : List (Str × Str)) (s : Str) (R S O : Nat) (v : Value) (W : World) (hR : Bx W R #[v] 35) (hr : IsRules W v rs) (hS : Bx W S #[encS s] 9) (hO : Bx W O #[.slice none 0 0] 36) :
    Calls Tryz.prog 97 #[.pointer (some ⟨R, 0, none⟩), .pointer (some ⟨S, 0, none⟩), .pointer (some ⟨O, 0, none⟩)] W (Ran 36 (nextR rs s) O (fun W' v l => OwnS W.heap.size W' v l) W) := by
  have hL := newLaws_any rs v W hr
  obtain ⟨p, c, hv⟩ : ∃ p c, v = .slice p rs.length c := by
    rcases hr with ⟨rfl, a, c, rfl⟩ | ⟨a, o, c, rfl, -⟩
    · exact ⟨_, _, rfl⟩
    · exact ⟨_, _, rfl⟩
  subst hv
  have c0 := hR.at 0 (y := .slice p rs.length c) rfl
  have HL := Lib.hid hL
  have HS := Lib.hid hS
  have HO := Lib.hid hO
  clear hL hr hS hO hR
  go_enter Tryz.func97, Tryz.ntmps97
  have hrd : ∀ W, Calls Tryz.prog 69 #[encS s] W (ReadsStr W (Tm.parse s)) := fun W => read_any s W
  have HRd := Lib.hid hrd
  clear hrd
  go_wp2_with (first
    | ((with_reducible refine HL.out.mono ?_); clear HL; rintro e w1 (⟨ls, v1, ho, rfl, hE, hls⟩ | ⟨ho, rfl, hE⟩); rotate_left; exact ⟨rfl, .inr ⟨2, (by simp [nextR, ho]), rfl, hE⟩⟩; have HLs := Lib.hid hls; have HE := Lib.hid hE; have HO1 := Lib.hid ho; have s1 := (HS.out.ext hE).at 0 (y := encS s) rfl; clear ho hE hls)
    | ((with_reducible refine (HRd.out w1).mono ?_); clear HRd; rintro e w2 (⟨t, T, y, ho, rfl, hE, ht⟩ | ⟨ho, rfl, hE⟩); rotate_left; exact ⟨rfl, .inr ⟨4, (by simp [nextR, HO1.out, ho]), rfl, HE.out.trans hE⟩⟩; have HT := Lib.hid ht; have HE2 := Lib.hid (HE.out.trans hE); have HO2 := Lib.hid ho; have HN := Lib.hid (nextT_any ls (Nat.le_trans (okLaws_spec HO1.out).1 (by decide)) (fun l hl => ((okLaws_spec HO1.out).2 l hl).2.2.1) t v1 (.iface T y) w2 ((Tm.parse_iff _ _).1 ho).2 (S := fun b => b < w2.heap.size) (fun b hb => hb) (HLs.out.ext hE).lt (ht.lt.mono fun _ h => h.2)); clear ho hE ht)
    | ((with_reducible refine HN.out.mono ?_); clear HN; rintro e w3 (⟨hsm, v3, rfl, ho, hE⟩ | ⟨hbig, rfl, hE⟩); rotate_left; exact ⟨rfl, .inr ⟨5, nextR_big HO1.out HO2.out hbig, rfl, HE2.out.trans hE⟩⟩; have HE3 := Lib.hid (HE2.out.trans hE); have HSm := Lib.hid hsm; have HTx := Lib.hid (texts_any (nexts ls t) v3 w3 (nexts_few HO1.out HO2.out) (fun u hu => Nat.le_trans (hsm u hu) (by decide)) ho.read); clear ho hE hsm)
    | ((with_reducible refine HTx.out.mono ?_); clear HTx; rintro e w4 ⟨v4, rfl, ho, hE⟩; obtain ⟨p4, c4, rfl⟩ := ho.slice; have HE4 := Lib.hid (HE3.out.trans hE); have HOw := Lib.hid ho; have o0 := (HO.out.ext HE4.out).at 0 (y := .slice none 0 0) rfl; have of0 := (HO.out.ext HE4.out).free 0; clear ho hE))
  go_end0
  have hlt := HO.out.lt
  have h3 := HE3.out.size
  refine .inl ⟨_, _, nextR_ok HO1.out HO2.out HSm.out, rfl, (HO.out.ext HE4.out).set 0 _, ?_, (HE4.out.grows' _).trans (grown_set _ ⟨O, 0, none⟩ _)⟩
  exact owns_base (World.ownsRow.kept HOw.out (grown_set _ ⟨O, 0, none⟩ _) (.inr fun e => by have := (World.ownsRow.lt HOw.out O e).1; omega)) h3

/-- What an exported function hands back that makes strings or reports an error. -/
def OutS (r : Except Int (List Str)) (w : World) (e : Ending) (w' : World) : Prop :=
  (∃ l v, r = .ok l ∧ e = .returned (.tuple #[v, .int .i64 0]) ∧ OwnS w.heap.size w' v l ∧ Ext w w') ∨ (∃ n, r = .error n ∧ e = .returned (.tuple #[.slice none 0 0, .int .i64 n]) ∧ Ext w w')

theorem Next_any (rs : List (Str × Str)) (s : Str) (v : Value) (w : World) (hr : IsRules w v rs) : Calls Tryz.prog 49 #[v, encS s] w (OutS (nextR rs s) w) := by
  obtain ⟨p, c, rfl⟩ : ∃ p c, v = .slice p rs.length c := by
    rcases hr with ⟨rfl, a, c, rfl⟩ | ⟨a, o, c, rfl, -⟩
    · exact ⟨_, _, rfl⟩
    · exact ⟨_, _, rfl⟩
  have hmf : ∀ (fn : Fn) (first cap : Array Value) (w : World), (Instr.makeFunc fn first cap).run Tryz.prog w = .ok (.func fn first cap) w := fun _ _ _ _ => rfl
  have HR := Lib.hid hr
  clear hr
  unfold encS
  go_enter Tryz.func49, Tryz.ntmps49
  go_wp2_with fail
  obtain ⟨W0, hW0, hb0, hb1, hb2, hE, hsz⟩ := boxes3 w #[.slice p rs.length c] 35 #[.string ⟨s.toArray⟩] 9 #[.slice none 0 0] 36
  rw [hW0]
  have hf := next1_any rs s w.heap.size (w.heap.size + 1) (w.heap.size + 1 + 1) (.slice p rs.length c) _ (hb0.alloc (.cells #[.int .i64 0] 26)) (HR.out.ext (hE.alloc _)) (hb1.alloc _) (hb2.alloc _)
  refine (guard_ran 36 (nextR rs s) (w.heap.size + 1 + 1) (fun W' v l => OwnS (W0.heap.size + 1) W' v l) 97 _ (fun _ _ => by kernel_rfl) W0 (by omega) (by simpa using hf) ?_).mono ?_
  · intro W1 W2 v a ho hg
    exact World.ownsRow.kept ho hg (.inr fun e => by have := (World.ownsRow.lt ho _ e).1; omega)
  rintro e w' (⟨l, v, ho, rfl, hb, hout, hg⟩ | ⟨n, ho, rfl, hx⟩)
  · obtain ⟨p4, c4, rfl⟩ := hout.slice
    have k0 := hb.at 0 (y := .slice p4 l.length c4) rfl
    have kf := hb.free 0
    have k1 := (hb.set 0 (.slice p4 l.length c4)).at 0 (y := .slice p4 l.length c4) rfl
    have HO := Lib.hid ho
    have HOut := Lib.hid hout
    have HE := Lib.hid (hE.over hg (by omega))
    clear hW0 hb0 hb1 hb2 hE hf hb hout hg ho
    go_wp2
    refine bodyPost_ret (v := .tuple #[.slice p4 l.length c4, .int .i64 0]) (by simp [results, Tryz.results49, go_sem, k1]) rfl ?_
    exact .inl ⟨l, _, HO.out, rfl, owns_base (World.ownsRow.kept HOut.out (grown_set _ ⟨w.heap.size + 1 + 1, 0, none⟩ _) (.inr fun e => by have := (World.ownsRow.lt HOut.out _ e).1; have : W0.heap.size + 1 ≤ w.heap.size + 1 + 1 := this; omega)) (by omega), HE.out.grown (grown_set _ ⟨w.heap.size + 1 + 1, 0, none⟩ _) (some_le (show w.heap.size ≤ w.heap.size + 1 + 1 by omega))⟩
  · have hb := hb2.ext hx
    have k0 := hb.at 0 (y := .slice none 0 0) rfl
    have kf := hb.free 0
    have k1 := (hb.set 0 (.slice none 0 0)).at 0 (y := .slice none 0 0) rfl
    have HO := Lib.hid ho
    have HE := Lib.hid (hE.trans hx)
    clear hW0 hb0 hb1 hb2 hE hf hb hx ho
    go_wp2
    refine bodyPost_ret (v := .tuple #[.slice none 0 0, .int .i64 n]) (by simp [results, Tryz.results49, go_sem, k1]) rfl ?_
    exact .inr ⟨n, HO.out, rfl, HE.out.grown (grown_set _ ⟨w.heap.size + 1 + 1, 0, none⟩ _) (some_le (show w.heap.size ≤ w.heap.size + 1 + 1 by omega))⟩

end Go.Proofs.YtholmlkjcobkdaaGreat
