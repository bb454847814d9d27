/- A pattern is matched. -/
import Derived.Test.YtholmlkjcobkdaaGreatWith
import Derived.Test.YtholmlkjcobkdaaGreatStr
namespace Go.Proofs.YtholmlkjcobkdaaGreat
set_option linter.all false
set_option linter.unusedSimpArgs false
set_option linter.unusedVariables false
open Go.RowKit
set_option maxRecDepth 100000

abbrev Sub := Fin 3 → Option Tm

/-- The substitution σ, extended so that the pattern becomes the term. -/
def Tm.mt : Tm → Tm → Sub → Option Sub
  | .v i, t, σ => match σ i with
    | some r => if r = t then some σ else none
    | none => some fun j => if j = i then some t else σ j
  | .k b, t, σ => if t = .k b then some σ else none
  | .u b r, t, σ => match t with
    | .u b' t => if b = b' then r.mt t σ else none
    | _ => none
  | .p b r q, t, σ => match t with
    | .p b' s t => if b = b' then (r.mt s σ).bind fun σ => q.mt t σ else none
    | _ => none

theorem Mp.apart {α : Type} {enc : α → Value} {w : World} {M : Nat} {m : List (α × Value)} (hm : Mp enc w M m) {a o : Nat} {y : Value} (hc : w.cell? ⟨a, o, none⟩ = some y) : a ≠ M := by
  rintro rfl
  obtain ⟨es, c, h, -⟩ := hm
  simp [World.cell?, h] at hc

theorem Mp.keeps {α : Type} {enc : α → Value} {S : Nat → Prop} {w w' : World} {M : Nat} {m : List (α × Value)} (hm : Mp enc w M m) (hg : w.grownBy w' (some M)) :
    ∀ a o y, S a → w.cell? ⟨a, o, none⟩ = some y → w'.cell? ⟨a, o, none⟩ = some y ∧ S a :=
  fun a o y hS hc => ⟨hg.cell (a := ⟨a, o, none⟩) hc (ne_some (hm.apart hc)), hS⟩

/-- What matching comes to. -/
def Matches (S : Nat → Prop) (M : Nat) (w : World) (o : Option Sub) (e : Ending) (w' : World) : Prop :=
  w.grownBy w' (some M) ∧ ((∃ σ m, o = some σ ∧ e = .returned (.bool true) ∧ Mp encV w' M m ∧ IsSub S w' m σ) ∨ (o = none ∧ e = .returned (.bool false)))

theorem as_vv (i : Fin 3) (w : World) : (Instr.typeAssert (.iface 131 (.int .u8 (vI i))) 99 131 true).run Tryz.prog w = .ok (.tuple #[.int .u8 (vI i), .bool true]) w := by kernel_rfl
theorem as_cv (c : Int) (x : Value) (w : World) : (Instr.typeAssert (.iface 149 (.agg #[.int .u8 c, x])) 99 131 true).run Tryz.prog w = .ok (.tuple #[.int .u8 0, .bool false]) w := by kernel_rfl
theorem as_vc (c : Int) (w : World) : (Instr.typeAssert (.iface 131 (.int .u8 c)) 99 149 true).run Tryz.prog w = .ok (.tuple #[.agg #[.int .u8 0, .slice none 0 0], .bool false]) w := by kernel_rfl
theorem as_cc (c : Int) (x : Value) (w : World) : (Instr.typeAssert (.iface 149 (.agg #[.int .u8 c, x])) 99 149 true).run Tryz.prog w = .ok (.tuple #[.agg #[.int .u8 c, x], .bool true]) w := by kernel_rfl

theorem under_sub : Tryz.prog.underlying 128 = some (.map 131 99) := by kernel_rfl

theorem IsSub.put {S : Nat → Prop} {w : World} {m : List (Fin 3 × Value)} {σ : Sub} {i : Fin 3} {t : Tm} {x : Value} (h : IsSub S w m σ) (ht : IsT S w t x) : IsSub S w (putA i x m) (fun j => if j = i then some t else σ j) := by
  intro j
  by_cases hj : j = i
  · subst hj; exact .inr ⟨x, t, getA_put_same _ _ _, by simp, ht⟩
  · simp only [getA_put_other hj, if_neg hj]; exact h j

theorem match_new {S : Nat → Prop} (i : Fin 3) (t : Tm) (x : Value) (M : Nat) (m : List (Fin 3 × Value)) (σ : Sub) (w : World) (hm : Mp encV w M m) (hs : IsSub S w m σ) (ht : IsT S w t x) (h : σ i = none) :
    Calls Tryz.prog 96 #[tV i, x, .map (some M)] w (Matches S M w ((Tm.v i).mt t σ)) := by
  have HM := Lib.hid hm
  have HS := Lib.hid hs
  have HT := Lib.hid ht
  have H := Lib.hid h
  obtain ⟨T, y, rfl⟩ := ht.iface
  have hg : getA i m = none := by
    rcases hs i with h1 | ⟨x, t, h1, h2, h3⟩
    · exact h1.1
    · rw [h] at h2; cases h2
  have e : (.tuple #[(getA i m).getD .nilIface, .bool (getA i m).isSome] : Value) = .tuple #[.nilIface, .bool false] := by rw [hg]; rfl
  have HE := Lib.hid e
  have h1 := as_vv i
  unfold tV
  clear hm hs ht h hg e
  go_enter Tryz.func96, Tryz.ntmps96
  go_wp2_with (first
    | (refine wpList_look_ok keysV under_sub zero_term HM.out i rfl rfl ?_; rw [HE.out])
    | (refine wpList_mput keysV under_sub HM.out i (.iface T y) (by rfl) (by rfl) (by rfl) ?_; intro w' hm' hg' hz'; have HM' := Lib.hid hm'; have HG' := Lib.hid hg'; clear hm' hg' hz'))
  go_ret
  exact ⟨HG'.out, .inl ⟨_, _, by simp only [Tm.mt, H.out], rfl, HM'.out, (HS.out.put HT.out).keep (HM.out.keeps HG'.out)⟩⟩

theorem match_old {S : Nat → Prop} (i : Fin 3) (t u : Tm) (x : Value) (M : Nat) (m : List (Fin 3 × Value)) (σ : Sub) (w : World) (hm : Mp encV w M m) (hs : IsSub S w m σ) (ht : IsT S w t x) (h : σ i = some u)
    (hsz : t.size ≤ 100000) (hsu : u.size ≤ 100000) : Calls Tryz.prog 96 #[tV i, x, .map (some M)] w (Matches S M w ((Tm.v i).mt t σ)) := by
  have HM := Lib.hid hm
  have HS := Lib.hid hs
  have HT := Lib.hid ht
  have H := Lib.hid h
  obtain ⟨z, hz, hu⟩ : ∃ z, getA i m = some z ∧ IsT S w u z := by
    rcases hs i with h1 | ⟨x, t, h1, h2, h3⟩
    · rw [h] at h1; cases h1.2
    · rw [h] at h2; cases h2; exact ⟨x, h1, h3⟩
  have HU := Lib.hid hu
  obtain ⟨T, y, rfl⟩ := ht.iface
  obtain ⟨U, z, rfl⟩ := hu.iface
  have e : (.tuple #[(getA i m).getD .nilIface, .bool (getA i m).isSome] : Value) = .tuple #[.iface U z, .bool true] := by rw [hz]; rfl
  have HE := Lib.hid e
  have h1 := as_vv i
  unfold tV
  clear hm hs ht h hz e hu
  go_enter Tryz.func96, Tryz.ntmps96
  go_wp2_with (first
    | (refine wpList_look_ok keysV under_sub zero_term HM.out i rfl rfl ?_; rw [HE.out])
    | (go_at_call 125; refine (same_any u t _ _ w hsu hsz HU.out HT.out).mono ?_; rintro e w' ⟨rfl, hE⟩; have HE' := Lib.hid hE; clear hE))
  go_ret
  refine ⟨⟨HE'.out.os, HE'.out.tape, HE'.out.output, HE'.out.size, fun k hk _ => HE'.out.block k hk⟩, ?_⟩
  by_cases hut : u = t
  · exact .inl ⟨σ, m, by simp only [Tm.mt, H.out, if_pos hut], by simp [hut], HM.out.ext HE'.out, HS.out.keep fun _ _ _ h1 h2 => ⟨HE'.out.cell h2, h1⟩⟩
  · exact .inr ⟨by simp only [Tm.mt, H.out, if_neg hut], by simp [hut]⟩

theorem match_var {c : Int} {pa : Option Addr} {pn pc : Nat} (S : Nat → Prop) (i : Fin 3) (M : Nat) (w : World) (o : Option Sub) (ho : o = none) : Calls Tryz.prog 96 #[tC c (.slice pa pn pc), tV i, .map (some M)] w (Matches S M w o) := by
  have h1 := as_cv c (.slice pa pn pc)
  have h2 := as_vc (vI i)
  have h3 := as_cc c (.slice pa pn pc)
  have HO := Lib.hid ho
  unfold tV tC
  clear ho
  go_enter Tryz.func96, Tryz.ntmps96
  go_wp2_with fail
  go_ret
  exact ⟨((World.grownBy_alloc _ _ _).trans (World.grownBy_alloc _ _ _)), .inr ⟨HO.out, rfl⟩⟩

theorem match_ne {c c' : Int} {pa pa' : Option Addr} {pn pc pn' pc' : Nat} (S : Nat → Prop) (M : Nat) (w : World) (o : Option Sub) (ho : o = none) (hne : c' ≠ c) :
    Calls Tryz.prog 96 #[tC c (.slice pa pn pc), tC c' (.slice pa' pn' pc'), .map (some M)] w (Matches S M w o) := by
  have h1 := as_cv c (.slice pa pn pc)
  have h2 := as_cc c' (.slice pa' pn' pc')
  have h3 := as_cc c (.slice pa pn pc)
  have h4 : (c' != c) = true := by simpa using hne
  have HO := Lib.hid ho
  unfold tC
  clear ho hne
  go_enter Tryz.func96, Tryz.ntmps96
  go_wp2_with fail
  go_ret
  exact ⟨((World.grownBy_alloc _ _ _).trans (World.grownBy_alloc _ _ _)), .inr ⟨HO.out, rfl⟩⟩

theorem match_k {S : Nat → Prop} {c : Int} (M : Nat) (m : List (Fin 3 × Value)) (σ : Sub) (w : World) (hm : Mp encV w M m) (hs : IsSub S w m σ) (o : Option Sub) (ho : o = some σ) :
    Calls Tryz.prog 96 #[tC c (.slice none 0 0), tC c (.slice none 0 0), .map (some M)] w (Matches S M w o) := by
  have h1 := as_cv c (.slice none 0 0)
  have h2 := as_cc c (.slice none 0 0)
  have h4 : (c != c) = false := by simp
  have HO := Lib.hid ho
  have HM := Lib.hid hm
  have HS := Lib.hid hs
  unfold tC
  clear ho hm hs
  go_enter Tryz.func96, Tryz.ntmps96
  go_wp2_with fail
  refine wp_loop_rounds 1 ?_
  rw [rounds_succ]
  go_wp2_with fail
  go_ret
  exact ⟨((World.grownBy_alloc _ _ _).trans (World.grownBy_alloc _ _ _)), .inl ⟨σ, m, HO.out, rfl, (HM.out.alloc _).alloc _, (HS.out.keep fun _ _ _ h1 h2 => ⟨((Ext.new w _).alloc _).cell h2, h1⟩)⟩⟩

/-- Matching in a later world. -/
theorem Matches.later {S : Nat → Prop} {M : Nat} {w w1 : World} {o : Option Sub} {e : Ending} {w' : World} (hg : w.grownBy w1 (some M)) (h : Matches S M w1 o e w') : Matches S M w o e w' :=
  ⟨hg.trans h.1, h.2⟩

theorem Matches.cases {S : Nat → Prop} {M : Nat} {w : World} {o : Option Sub} {e : Ending} {w' : World} (h : Matches S M w o e w') :
    (∃ σ, o = some σ ∧ e = .returned (.bool true) ∧ w.grownBy w' (some M) ∧ ∃ m, Mp encV w' M m ∧ IsSub S w' m σ) ∨ (o = none ∧ e = .returned (.bool false) ∧ w.grownBy w' (some M)) := by
  obtain ⟨h1, ⟨σ, m, h2, h3, h4, h5⟩ | ⟨h2, h3⟩⟩ := h
  · exact .inl ⟨σ, h2, h3, h1, m, h4, h5⟩
  · exact .inr ⟨h2, h3, h1⟩

theorem match_u {S : Nat → Prop} {c : Int} {a b o o' cap cap' : Nat} {x y : Value} (M : Nat) (w : World) (r : Option Sub)
    (hx : w.cell? ⟨a, o, none⟩ = some x) (hy : w.cell? ⟨b, o', none⟩ = some y) (ih : ∀ w', Ext w w' → Calls Tryz.prog 96 #[x, y, .map (some M)] w' (Matches S M w' r)) :
    Calls Tryz.prog 96 #[tC c (.slice (some ⟨a, o, none⟩) 1 cap), tC c (.slice (some ⟨b, o', none⟩) 1 cap'), .map (some M)] w (Matches S M w r) := by
  have h1 := as_cv c (.slice (some ⟨a, o, none⟩) 1 cap)
  have h2 := as_cc c (.slice (some ⟨a, o, none⟩) 1 cap)
  have h3 := as_cc c (.slice (some ⟨b, o', none⟩) 1 cap')
  have h4 : (c != c) = false := by simp
  have ha := lt_of_cell hx
  have hb := lt_of_cell hy
  have IH := Lib.hid ih
  unfold tC
  clear ih
  go_enter Tryz.func96, Tryz.ntmps96
  go_wp2_with fail
  refine wp_loop_rounds 2 ?_
  rw [rounds_succ]
  go_wp2_with fail
  refine (IH.out _ ((Ext.new w _).alloc _)).mono ?_
  intro e w1 hh
  rcases hh.cases with ⟨σ, ho, rfl, hg, m, hm, hs⟩ | ⟨ho, rfl, hg⟩
  · have HG := Lib.hid hg
    have HO := Lib.hid ho
    have HM := Lib.hid hm
    have HS := Lib.hid hs
    clear hg ho hm hs hh hx hy
    go_wp2_with fail
    rw [rounds_succ]
    go_wp2_with fail
    go_ret
    exact ⟨((World.grownBy_alloc _ _ _).trans (World.grownBy_alloc _ _ _)).trans HG.out, .inl ⟨σ, m, HO.out, rfl, HM.out, HS.out⟩⟩
  · have HG := Lib.hid hg
    have HO := Lib.hid ho
    clear hg ho hh hx hy
    go_wp2_with fail
    go_ret
    exact ⟨((World.grownBy_alloc _ _ _).trans (World.grownBy_alloc _ _ _)).trans HG.out, .inr ⟨HO.out, rfl⟩⟩

set_option maxHeartbeats 1000000 in
theorem match_p {S : Nat → Prop} {c : Int} {a b o o' cap cap' : Nat} {x y x2 y2 : Value} (M : Nat) {m0 : List (Fin 3 × Value)} (w : World) (hm0 : Mp encV w M m0) (r : Option Sub) (r2 : Sub → Option Sub)
    (hx : w.cell? ⟨a, o, none⟩ = some x) (hx2 : w.cell? ⟨a, o + 1, none⟩ = some x2) (hy : w.cell? ⟨b, o', none⟩ = some y) (hy2 : w.cell? ⟨b, o' + 1, none⟩ = some y2)
    (ih : ∀ w', Ext w w' → Calls Tryz.prog 96 #[x, y, .map (some M)] w' (Matches S M w' r))
    (ih2 : ∀ σ m w', r = some σ → w.grownBy w' (some M) → Mp encV w' M m → IsSub S w' m σ → Calls Tryz.prog 96 #[x2, y2, .map (some M)] w' (Matches S M w' (r2 σ))) :
    Calls Tryz.prog 96 #[tC c (.slice (some ⟨a, o, none⟩) 2 cap), tC c (.slice (some ⟨b, o', none⟩) 2 cap'), .map (some M)] w (Matches S M w (r.bind r2)) := by
  have h1 := as_cv c (.slice (some ⟨a, o, none⟩) 2 cap)
  have h2 := as_cc c (.slice (some ⟨a, o, none⟩) 2 cap)
  have h3 := as_cc c (.slice (some ⟨b, o', none⟩) 2 cap')
  have h4 : (c != c) = false := by simp
  have ha := lt_of_cell hx
  have hb := lt_of_cell hy
  have IH := Lib.hid ih
  have IH2 := Lib.hid ih2
  have hMw := hm0.lt
  have X2 := Lib.hid hx2
  have Y2 := Lib.hid hy2
  have hxM := hm0.apart hx2
  have hyM := hm0.apart hy2
  unfold tC
  clear ih ih2 hm0 hx2 hy2
  go_enter Tryz.func96, Tryz.ntmps96
  go_wp2_with fail
  refine wp_loop_rounds 3 ?_
  rw [rounds_succ]
  go_wp2_with fail
  have HE0 := Lib.hid ((Ext.new w (.cells #[.int .u8 c, .slice (some ⟨a, o, none⟩) 2 cap] 149)).alloc (.cells #[.int .u8 c, .slice (some ⟨b, o', none⟩) 2 cap'] 149))
  have hbx : Bx ((w.alloc (.cells #[.int .u8 c, .slice (some ⟨a, o, none⟩) 2 cap] 149)).alloc (.cells #[.int .u8 c, .slice (some ⟨b, o', none⟩) 2 cap'] 149)) (w.heap.size + 1) #[.int .u8 c, .slice (some ⟨b, o', none⟩) 2 cap'] 149 := by
    simpa using Bx.new (w.alloc (.cells #[.int .u8 c, .slice (some ⟨a, o, none⟩) 2 cap] 149)) #[.int .u8 c, .slice (some ⟨b, o', none⟩) 2 cap'] 149
  have hg0 := Lib.hid ((World.grownBy_alloc w (.cells #[.int .u8 c, .slice (some ⟨a, o, none⟩) 2 cap] 149) (some M)).trans (World.grownBy_alloc _ (.cells #[.int .u8 c, .slice (some ⟨b, o', none⟩) 2 cap'] 149) _))
  refine (IH.out _ HE0.out).mono ?_
  intro e w1 hh
  rcases hh.cases with ⟨σ, ho, rfl, hg, m, hm, hs⟩ | ⟨ho, rfl, hg⟩
  · have HG := Lib.hid (hg0.out.trans hg)
    have HO := Lib.hid ho
    have HM := Lib.hid hm
    have HS := Lib.hid hs
    have hx2' := HG.out.cell (a := ⟨a, o + 1, none⟩) X2.out (ne_some hxM)
    have hy2' := HG.out.cell (a := ⟨b, o' + 1, none⟩) Y2.out (ne_some hyM)
    have c1 := (hbx.grown hg (ne_some (by omega))).cell 1
    simp only [List.getElem?_toArray, List.getElem?_cons_succ, List.getElem?_cons_zero] at c1
    clear hg ho hm hs hh hx hy hbx
    go_wp2_with fail
    rw [rounds_succ]
    go_wp2_with fail
    refine (IH2.out σ m w1 HO.out HG.out HM.out HS.out).mono ?_
    intro e w2 hh
    rcases hh.cases with ⟨σ2, ho, rfl, hg, m2, hm, hs⟩ | ⟨ho, rfl, hg⟩
    · have HG2 := Lib.hid hg
      have HO2 := Lib.hid ho
      have HM2 := Lib.hid hm
      have HS2 := Lib.hid hs
      clear hg ho hm hs hh hx2' hy2' c1
      go_wp2_with fail
      rw [rounds_succ]
      go_wp2_with fail
      go_ret
      exact ⟨HG.out.trans HG2.out, .inl ⟨σ2, m2, by rw [HO.out]; exact HO2.out, rfl, HM2.out, HS2.out⟩⟩
    · have HG2 := Lib.hid hg
      have HO2 := Lib.hid ho
      clear hg ho hh hx2' hy2' c1
      go_wp2_with fail
      go_ret
      exact ⟨HG.out.trans HG2.out, .inr ⟨by rw [HO.out]; exact HO2.out, rfl⟩⟩
  · have HG := Lib.hid hg
    have HO := Lib.hid ho
    clear hg ho hh hx hy hbx
    go_wp2_with fail
    go_ret
    exact ⟨hg0.out.trans HG.out, .inr ⟨by rw [HO.out]; rfl, rfl⟩⟩

theorem kI_inj : ∀ b c, kI b = kI c → b = c := by decide
theorem uI_inj : ∀ b c, uI b = uI c → b = c := by decide
theorem pI_inj : ∀ b c, pI b = pI c → b = c := by decide
theorem kI_uI : ∀ b c, kI b ≠ uI c := by decide
theorem kI_pI : ∀ b c, kI b ≠ pI c := by decide
theorem uI_pI : ∀ b c, uI b ≠ pI c := by decide

/-- The terms of a substitution are not too large. -/
def Sub.small (σ : Sub) : Prop := ∀ i t, σ i = some t → t.size ≤ 100000

theorem mt_small : ∀ (p t : Tm) (σ σ' : Sub), Sub.small σ → t.size ≤ 100000 → p.mt t σ = some σ' → Sub.small σ' := by
  intro p
  induction p with
  | v i =>
    intro t σ σ' hs ht h
    simp only [Tm.mt] at h
    split at h
    · split at h
      · cases h; exact hs
      · cases h
    · cases h
      intro j u hj
      by_cases hji : j = i
      · simp only [if_pos hji, Option.some.injEq] at hj; subst hj; exact ht
      · simp only [if_neg hji] at hj; exact hs j u hj
  | k b =>
    intro t σ σ' hs ht h
    simp only [Tm.mt] at h
    split at h
    · cases h; exact hs
    · cases h
  | u b r ih =>
    intro t σ σ' hs ht h
    cases t with
    | u b' t =>
      simp only [Tm.mt] at h
      split at h
      · exact ih t σ σ' hs (by simp only [Tm.size] at ht; omega) h
      · cases h
    | v i => simp [Tm.mt] at h
    | k b => simp [Tm.mt] at h
    | p b s t => simp [Tm.mt] at h
  | p b r q ih1 ih2 =>
    intro t σ σ' hs ht h
    cases t with
    | p b' s t =>
      simp only [Tm.mt] at h
      split at h
      · simp only [Tm.size] at ht
        cases hr : r.mt s σ with
        | none => rw [hr] at h; cases h
        | some τ => rw [hr] at h; exact ih2 t τ σ' (ih1 s σ τ hs (by omega) hr) (by omega) h
      · cases h
    | v i => simp [Tm.mt] at h
    | k b => simp [Tm.mt] at h
    | u b t => simp [Tm.mt] at h

/-- 'match': the substitution, extended so that the pattern becomes the term, in the map. -/
theorem match_any {S S' : Nat → Prop} (M : Nat) : ∀ (p t : Tm) (px tx : Value) (m : List (Fin 3 × Value)) (σ : Sub) (w : World), Sub.small σ → t.size ≤ 100000 → Mp encV w M m → IsSub S w m σ → IsT S' w p px → IsT S w t tx →
    Calls Tryz.prog 96 #[px, tx, .map (some M)] w (Matches S M w (p.mt t σ)) := by
  intro p
  induction p with
  | v i =>
    rintro t px tx m σ w hss hts hm hs rfl ht
    cases h : σ i with
    | none => exact match_new i t tx M m σ w hm hs ht h
    | some u => exact match_old i t u tx M m σ w hm hs ht h hts (hss i u h)
  | k b =>
    rintro t px tx m σ w hss hts hm hs rfl ht
    cases t with
    | v i => cases ht; exact match_var S i M w _ (by simp [Tm.mt])
    | k b' =>
      cases ht
      by_cases hb : b = b'
      · subst hb; exact match_k M m σ w hm hs _ (by simp [Tm.mt])
      · exact match_ne S M w _ (by simp [Tm.mt]; exact fun e => hb e.symm) (fun e => hb (kI_inj _ _ e).symm)
    | u b' t => obtain ⟨_, _, _, _, rfl, _⟩ := ht; exact match_ne S M w _ (by simp [Tm.mt]) (fun e => kI_uI _ _ e.symm)
    | p b' s t => obtain ⟨_, _, _, _, _, rfl, _⟩ := ht; exact match_ne S M w _ (by simp [Tm.mt]) (fun e => kI_pI _ _ e.symm)
  | u b r ih =>
    rintro t px tx m σ w hss hts hm hs ⟨a, o, cap, y, rfl, -, hc, hr⟩ ht
    cases t with
    | v i => cases ht; exact match_var S i M w _ (by simp [Tm.mt])
    | k b' => cases ht; exact match_ne S M w _ (by simp [Tm.mt]) (fun e => kI_uI _ _ e)
    | u b' t =>
      obtain ⟨a', o', cap', y', rfl, -, hc', ht'⟩ := ht
      simp only [Tm.size] at hts
      by_cases hb : b = b'
      · subst hb
        have e : (Tm.u b r).mt (.u b t) σ = r.mt t σ := by simp [Tm.mt]
        rw [e]
        exact match_u M w _ hc hc' fun w' he => ih t y y' m σ w' hss (by omega) (hm.ext he) (hs.keep fun _ _ _ h1 h2 => ⟨he.cell h2, h1⟩) (hr.ext he) (ht'.ext he)
      · exact match_ne S M w _ (by simp [Tm.mt, hb]) (fun e => hb (uI_inj _ _ e).symm)
    | p b' s t => obtain ⟨_, _, _, _, _, rfl, _⟩ := ht; exact match_ne S M w _ (by simp [Tm.mt]) (fun e => uI_pI _ _ e.symm)
  | p b r q ih1 ih2 =>
    rintro t px tx m σ w hss hts hm hs ⟨a, o, cap, y, z, rfl, -, hc, hd, hr, hq⟩ ht
    cases t with
    | v i => cases ht; exact match_var S i M w _ (by simp [Tm.mt])
    | k b' => cases ht; exact match_ne S M w _ (by simp [Tm.mt]) (fun e => kI_pI _ _ e)
    | u b' t => obtain ⟨_, _, _, _, rfl, _⟩ := ht; exact match_ne S M w _ (by simp [Tm.mt]) (fun e => uI_pI _ _ e)
    | p b' s t =>
      obtain ⟨a', o', cap', y', z', rfl, -, hc', hd', hs', ht'⟩ := ht
      simp only [Tm.size] at hts
      by_cases hb : b = b'
      · subst hb
        have e : (Tm.p b r q).mt (.p b s t) σ = (r.mt s σ).bind fun σ => q.mt t σ := by simp [Tm.mt]
        rw [e]
        refine match_p M w hm _ _ hc hd hc' hd' (fun w' he => ih1 s y y' m σ w' hss (by omega) (hm.ext he) (hs.keep fun _ _ _ h1 h2 => ⟨he.cell h2, h1⟩) (hr.ext he) (hs'.ext he)) ?_
        intro τ m' w' hτ hg hm' hs2
        exact ih2 t z z' m' τ w' (mt_small r s σ τ hss (by omega) hτ) (by omega) hm' hs2 (hq.keep (hm.keeps hg)) (ht'.keep (hm.keeps hg))
      · exact match_ne S M w _ (by simp [Tm.mt, hb]) (fun e => hb (pI_inj _ _ e).symm)

end Go.Proofs.YtholmlkjcobkdaaGreat
