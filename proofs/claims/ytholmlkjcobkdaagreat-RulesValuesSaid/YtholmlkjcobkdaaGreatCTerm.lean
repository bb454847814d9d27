/- slices.ContainsFunc over terms, by any predicate that keeps a condition on the world; 'leads', pure. -/
import Derived.Test.YtholmlkjcobkdaaGreatExp2
namespace Go.Proofs.YtholmlkjcobkdaaGreat
set_option linter.all false
set_option linter.unusedSimpArgs false
set_option linter.unusedVariables false
open Go.RowKit
set_option maxRecDepth 100000

theorem IsTs.get {S : Nat → Prop} {w : World} {v : Value} {ts : List Tm} (h : IsTs S w v ts) {d : Nat} {t : Tm} (hd : ts[d]? = some t) :
    ∃ a o cap T x, v = .slice (some ⟨a, o, none⟩) ts.length cap ∧ w.cell? ⟨a, o + d, none⟩ = some (.iface T x) ∧ IsT S w t (.iface T x) := by
  rcases h with ⟨rfl, -⟩ | ⟨a, o, cap, xs, h1, h2, h3, h4⟩
  · simp at hd
  · obtain ⟨x, hx, hs⟩ := h4.get _ _ hd
    obtain ⟨T, x, rfl⟩ := hs.iface
    exact ⟨a, o, cap, T, x, h1, h3 _ _ hx, hs⟩

theorem IsTs.mono {S S' : Nat → Prop} {w : World} {v : Value} {ts : List Tm} (hS : ∀ b, S b → S' b) (h : IsTs S w v ts) : IsTs S' w v ts := by
  rcases h with h | ⟨a, o, cap, xs, h1, h2, h3, h4⟩
  · exact .inl h
  · exact .inr ⟨a, o, cap, xs, h1, h2, h3, h4.mono hS⟩

def TermPred (J : World → Prop) (g : FuncId) (caps : Array Value) (f : Tm → Bool) (ls : List Tm) : Prop :=
  ∀ l ∈ ls, ∀ (T : TypeId) (x : Value) (W : World), J W → IsT Any W l (.iface T x) → Calls Tryz.prog g (#[.iface T x] ++ caps) W fun e W' => e = .returned (.bool (f l)) ∧ J W'

set_option maxHeartbeats 1000000 in
theorem indexTerm_any (J : World → Prop) (g : FuncId) (caps : Array Value) (f : Tm → Bool) (ls : List Tm) (v : Value) (w : World) (hn : ls.length ≤ 1000000) (hg : ∀ xs W, (callFunc g xs).run Tryz.prog W = .ok (.enter g xs) W)
    (hJ : ∀ W, J W → IsTs Any W v ls) (h0 : J w) (hp : TermPred J g caps f ls) :
    Calls Tryz.prog 146 #[v, .func (.func g) #[] caps] w fun e W' => ∃ n : Int, e = .returned (.int .i64 n) ∧ (ls.any f = true ∧ 0 ≤ n ∨ ls.any f = false ∧ n = -1) ∧ J W' := by
  obtain ⟨p, c, rfl⟩ := (hJ w h0).slice
  have HJ := Lib.hid hJ
  have H0 := Lib.hid h0
  have HP := Lib.hid hp
  clear hJ h0 hp
  go_enter Tryz.func146, Tryz.ntmps146
  go_wp2_with fail
  go_loopg [8] ls.length (fun k i wr => ∃ d, d + k = ls.length ∧ i = .int .i64 d ∧ J wr ∧ (ls.take d).any f = false)
  case atStart => exact ⟨0, by simp, rfl, H0.out, by simp⟩
  case round =>
    obtain ⟨d, hd, rfl, hj, hno⟩ := hrel
    have HJr := Lib.hid hj
    have HNo := Lib.hid hno
    clear hj hno
    cases gk with
    | zero =>
      obtain rfl : d = ls.length := by omega
      go_wp2_with fail
      go_ret
      have h := HNo.out
      rw [List.take_length] at h
      exact ⟨-1, rfl, .inr ⟨h, rfl⟩, HJr.out⟩
    | succ k =>
      have hdl : d < ls.length := by omega
      have hdl' : (d : Int) < (ls.length : Int) := by omega
      have hd2 : (d : Int) + 1 ≤ 1000001 := by omega
      obtain ⟨l, hlr⟩ : ∃ q, ls[d]? = some q := ⟨_, List.getElem?_eq_getElem hdl⟩
      obtain ⟨a, o, cap, U, y, hv, hc0, hy⟩ := (HJ.out _ HJr.out).get hlr
      cases hv
      have HC := Lib.hid (HP.out l (List.mem_of_getElem? hlr) U y wr HJr.out hy)
      have HLR := Lib.hid hlr
      clear hlr hy
      cases hf : f l with
      | true =>
        rw [hf] at HC
        have HF := Lib.hid hf
        clear hf
        go_wp2_with fail
        refine HC.out.mono ?_
        rintro e w1 ⟨rfl, hj1⟩
        have HJ1 := Lib.hid hj1
        clear hj1 HC
        go_wp2_with fail
        go_ret
        exact ⟨d, rfl, .inl ⟨List.any_eq_true.2 ⟨_, List.mem_of_getElem? HLR.out, HF.out⟩, by omega⟩, HJ1.out⟩
      | false =>
        rw [hf] at HC
        have HF := Lib.hid hf
        clear hf
        go_wp2_with fail
        refine HC.out.mono ?_
        rintro e w1 ⟨rfl, hj1⟩
        have HJ1 := Lib.hid hj1
        clear hj1 HC
        go_wp2_with fail
        go_roundg k
        case measure => omega
        case rel =>
          refine ⟨d + 1, by omega, congrArg (Value.int .i64) (by omega), HJ1.out, ?_⟩
          rw [List.take_add_one, HLR.out, List.any_append, HNo.out]
          simp [HF.out]

theorem containsTerm_any (J : World → Prop) (g : FuncId) (caps : Array Value) (f : Tm → Bool) (ls : List Tm) (v : Value) (w : World) (hn : ls.length ≤ 1000000) (hg : ∀ xs W, (callFunc g xs).run Tryz.prog W = .ok (.enter g xs) W)
    (hJ : ∀ W, J W → IsTs Any W v ls) (h0 : J w) (hp : TermPred J g caps f ls) :
    Calls Tryz.prog 122 #[v, .func (.func g) #[] caps] w fun e w' => e = .returned (.bool (ls.any f)) ∧ J w' := by
  have HC := Lib.hid (indexTerm_any J g caps f ls v w hn hg hJ h0 hp)
  obtain ⟨p, c, rfl⟩ := (hJ w h0).slice
  clear hJ h0 hp
  go_enter Tryz.func122, Tryz.ntmps122
  go_wp2_with fail
  refine HC.out.mono ?_
  rintro e w1 ⟨n, rfl, hh, hj⟩
  have HJ := Lib.hid hj
  clear HC hj
  rcases hh with ⟨ha, hn0⟩ | ⟨ha, rfl⟩
  · have HA := Lib.hid ha
    clear ha
    go_wp2_with fail
    go_ret
    exact ⟨by rw [HA.out]; simp [hn0], HJ.out⟩
  · have HA := Lib.hid ha
    clear ha
    go_wp2_with fail
    go_ret
    exact ⟨by rw [HA.out]; rfl, HJ.out⟩

/-- What the predicate of 'leads' keeps. -/
structure LJ (B : Nat) (t : Tm) (T : TypeId) (y : Value) (v : Value) (ts : List Tm) (w W : World) : Prop where
  e : Ext w W
  b : Bx W B #[.iface T y] 99
  t : IsT Any W t (.iface T y)
  l : IsTs Any W v ts

theorem leads1_any (B : Nat) (t : Tm) (T : TypeId) (y : Value) (v : Value) (ts : List Tm) (w : World) (ht : t.size ≤ 100000) (hs : ∀ u ∈ ts, u.size ≤ 100000) :
    TermPred (LJ B t T y v ts w) 124 #[.pointer (some ⟨B, 0, none⟩)] (fun u => decide (u = t)) ts := by
  intro u hu U x W hJ hx
  have HS := Lib.hid (same_any u t _ _ W (hs u hu) ht hx hJ.t)
  have c0 := hJ.b.at 0 (y := .iface T y) rfl
  have HJ := Lib.hid hJ
  clear hJ hx
  go_enter Tryz.func124, Tryz.ntmps124
  go_wp2_with ((with_reducible refine HS.out.mono ?_); clear HS; rintro e w1 ⟨rfl, hE⟩; have HE := Lib.hid hE; clear hE)
  go_ret
  exact ⟨rfl, HJ.out.e.trans HE.out, HJ.out.b.ext HE.out, HJ.out.t.ext HE.out, HJ.out.l.ext HE.out⟩

theorem put_kid {s k : Tm} {d : Nat} (h : s.kids[d]? = some k) (r : Tm) : (s.put d r).kids[d]? = some r := by
  cases s with
  | v i => simp [Tm.kids] at h
  | k b => simp [Tm.kids] at h
  | u b t => match d, h with
    | 0, h => rfl
  | p b s t => match d, h with
    | 0, h => rfl
    | 1, h => rfl
theorem put_sym (s : Tm) (d : Nat) (r : Tm) : (s.put d r).sym = s.sym := by
  cases s with
  | v i => rfl
  | k b => rfl
  | u b t => rfl
  | p b s t => simp only [Tm.put]; split <;> rfl
theorem put_isV (s : Tm) (d : Nat) (r : Tm) : (s.put d r).isV = s.isV := by
  cases s with
  | v i => rfl
  | k b => rfl
  | u b t => rfl
  | p b s t => simp only [Tm.put]; split <;> rfl

theorem nexts_mem (ls : List (Tm × Tm)) (s t : Tm) : t ∈ nexts ls s ↔ t ∈ rootT ls s ∨ ∃ d k r, s.kids[d]? = some k ∧ r ∈ nexts ls k ∧ s.put d r = t := by
  cases s with
  | v i => simp [nexts, Tm.kids]
  | k b => simp [nexts, Tm.kids]
  | u b s =>
    simp only [nexts, List.mem_append, List.mem_map]
    constructor
    · rintro (h | ⟨r, hr, rfl⟩)
      · exact .inl h
      · exact .inr ⟨0, s, r, rfl, hr, rfl⟩
    · rintro (h | ⟨d, k, r, hk, hr, rfl⟩)
      · exact .inl h
      · match d, hk with
        | 0, hk => simp [Tm.kids] at hk; subst hk; exact .inr ⟨r, hr, rfl⟩
  | p b s1 s2 =>
    simp only [nexts, List.mem_append, List.mem_map]
    constructor
    · rintro ((h | ⟨r, hr, rfl⟩) | ⟨r, hr, rfl⟩)
      · exact .inl h
      · exact .inr ⟨0, s1, r, rfl, hr, rfl⟩
      · exact .inr ⟨1, s2, r, rfl, hr, rfl⟩
    · rintro (h | ⟨d, k, r, hk, hr, rfl⟩)
      · exact .inl (.inl h)
      · match d, hk with
        | 0, hk => simp [Tm.kids] at hk; subst hk; exact .inl (.inr ⟨r, hr, rfl⟩)
        | 1, hk => simp [Tm.kids] at hk; subst hk; exact .inr ⟨r, hr, rfl⟩

theorem leads_root {ls : List (Tm × Tm)} {s t : Tm} (h : (rootT ls s).any (fun u => decide (u = t)) = true) : t ∈ nexts ls s := by
  rw [nexts_mem]
  obtain ⟨u, hu, he⟩ := List.any_eq_true.1 h
  simp at he
  subst he
  exact .inl hu

theorem not_root {ls : List (Tm × Tm)} {s t : Tm} (h : (rootT ls s).any (fun u => decide (u = t)) = false) : t ∉ rootT ls s := by
  intro hu
  have := List.any_eq_false.1 h t hu
  simp at this

theorem leads_no {ls : List (Tm × Tm)} {s t : Tm} (h : t ∉ rootT ls s) (hk : ∀ (d : Nat) (k r : Tm), s.kids[d]? = some k → t.kids[d]? = some r → ¬ (s.put d r = t ∧ r ∈ nexts ls k)) : t ∉ nexts ls s := by
  rw [nexts_mem]
  rintro (h1 | ⟨d, k, r, h1, h2, h3⟩)
  · exact h h1
  · exact hk d k r h1 (by rw [← h3]; exact put_kid h1 r) ⟨h3, h2⟩

theorem leads_yes {ls : List (Tm × Tm)} {s t : Tm} {d : Nat} {k r : Tm} (h1 : s.kids[d]? = some k) (h2 : s.put d r = t) (h3 : r ∈ nexts ls k) : t ∈ nexts ls s := by
  rw [nexts_mem]; exact .inr ⟨d, k, r, h1, h3, h2⟩

theorem leads_apart {ls : List (Tm × Tm)} {s t : Tm} (h : t ∉ rootT ls s) (hne : s.isV = true ∨ t.isV = true ∨ s.sym ≠ t.sym) : t ∉ nexts ls s := by
  refine leads_no h fun d k r h1 h2 ⟨h3, h4⟩ => ?_
  rcases hne with hv | hv | hv
  · cases s <;> simp [Tm.isV, Tm.kids] at hv h1
  · cases t <;> simp [Tm.isV, Tm.kids] at hv h2
  · rw [← h3, put_sym] at hv; exact hv rfl

end Go.Proofs.YtholmlkjcobkdaaGreat
