/- Exported functions that hand back an error alone; Proves; Greater. -/
import Derived.Test.YtholmlkjcobkdaaGreatExp
import Derived.Test.YtholmlkjcobkdaaGreatNPrec
namespace Go.Proofs.YtholmlkjcobkdaaGreat
set_option linter.all false
set_option linter.unusedSimpArgs false
set_option linter.unusedVariables false
open Go.RowKit
set_option maxRecDepth 100000

def errOf {α : Type} : Except Int α → Int
  | .ok _ => 0
  | .error n => n

/-- What a closure comes to that fills nothing, or reports an error. -/
def RanE (r : Except Int Unit) (W : World) (e : Ending) (W' : World) : Prop :=
  (r = .ok () ∧ e = .returned (.tuple #[]) ∧ Ext W W') ∨ (∃ n, r = .error n ∧ e = .panicked (tr n) ∧ Ext W W')

/-- The same behind 'guard'. -/
def GRanE (r : Except Int Unit) (W : World) (e : Ending) (W' : World) : Prop := e = .returned (.int .i64 (errOf r)) ∧ Ext W W'

theorem guard_ranE (r : Except Int Unit) (g : FuncId) (caps : Array Value) (hg : ∀ xs W, (callFunc g xs).run Tryz.prog W = .ok (.enter g xs) W) (W : World)
    (hf : Calls Tryz.prog g caps (W.alloc (.cells #[.int .i64 0] 26)) (RanE r (W.alloc (.cells #[.int .i64 0] 26)))) :
    Calls Tryz.prog 65 #[.func (.func g) #[] caps] W (GRanE r W) := by
  have hg0 := Bx.new W #[.int .i64 0] 26
  refine (guard_any g caps hg W _ hf ?_).mono ?_
  · intro e w1 hr
    have hb : Bx w1 W.heap.size #[.int .i64 0] 26 := by
      rcases hr with ⟨_, _, hx⟩ | ⟨n, _, _, hx⟩ <;> exact hg0.ext hx
    refine ⟨hb.lt, hb.cell 0, hb.free 0, ?_⟩
    rcases hr with ⟨_, h, _⟩ | ⟨n, _, h, _⟩
    · exact .inl h
    · exact .inr ⟨n, h⟩
  · rintro e w' ⟨e1, w1, n, hr, hgr, rfl, hc⟩
    rcases hr with ⟨rfl, rfl, hx⟩ | ⟨k, rfl, rfl, hx⟩
    · obtain rfl : n = 0 := by
        rcases hc with ⟨_, h⟩ | h
        · exact h
        · cases h
      exact ⟨rfl, ((Ext.new W _).trans hx).grown hgr (some_le (Nat.le_refl _))⟩
    · obtain rfl : n = k := by
        rcases hc with ⟨h, _⟩ | h
        · cases h
        · exact trn_inj h
      exact ⟨rfl, ((Ext.new W _).trans hx).grown hgr (some_le (Nat.le_refl _))⟩

theorem okLaws_small {rs : List (Str × Str)} {ls : List (Tm × Tm)} (h : okLaws rs = some ls) : ls.length ≤ 1000 ∧ ∀ l ∈ ls, l.1.size ≤ 100000 ∧ l.2.size ≤ 100000 := by
  obtain ⟨h1, h2⟩ := okLaws_spec h
  exact ⟨Nat.le_trans h1 (by decide), fun l hl => ⟨Nat.le_trans (h2 l hl).2.1 (by decide), Nat.le_trans (h2 l hl).2.2.1 (by decide)⟩⟩

def provesR (rs : List (Str × Str)) (s : Str) : Except Int Unit :=
  match okLaws rs with
  | none => .error 2
  | some ls => if okPrec s = true then (if provesT (rkOf s) ls = true then .ok () else .error 10) else .error 2

theorem provesR_no {rs : List (Str × Str)} {s : Str} (h : okLaws rs = none) : provesR rs s = .error 2 := by simp [provesR, h]
theorem provesR_bad {rs : List (Str × Str)} {ls : List (Tm × Tm)} {s : Str} (h : okLaws rs = some ls) (hp : okPrec s = false) : provesR rs s = .error 2 := by simp [provesR, h, hp]
theorem provesR_yes {rs : List (Str × Str)} {ls : List (Tm × Tm)} {s : Str} (h : okLaws rs = some ls) (hp : okPrec s = true) (hq : provesT (rkOf s) ls = true) : provesR rs s = .ok () := by simp [provesR, h, hp, hq]
theorem provesR_not {rs : List (Str × Str)} {ls : List (Tm × Tm)} {s : Str} (h : okLaws rs = some ls) (hp : okPrec s = true) (hq : provesT (rkOf s) ls = false) : provesR rs s = .error 10 := by simp [provesR, h, hp, hq]

theorem IsRules.slice {w : World} {v : Value} {rs : List (Str × Str)} (h : IsRules w v rs) : ∃ p c, v = .slice p rs.length c := by
  rcases h with ⟨rfl, a, c, rfl⟩ | ⟨a, o, c, rfl, -⟩
  · exact ⟨_, _, rfl⟩
  · exact ⟨_, _, rfl⟩

set_option maxHeartbeats 1000000 in
theorem proves1c_any (rs : List (Str × Str)) (s : Str) (R S : Nat) (v : Value) (W : World) (hs : s.length ≤ 1000000000) (hR : Bx W R #[v] 35) (hr : IsRules W v rs) (hS : Bx W S #[encS s] 9) :
    Calls Tryz.prog 90 #[.pointer (some ⟨R, 0, none⟩), .pointer (some ⟨S, 0, none⟩)] W (RanE (provesR rs s) W) := by
  have hL := newLaws_any rs v W hr
  obtain ⟨p, c, rfl⟩ := hr.slice
  have c0 := hR.at 0 (y := .slice p rs.length c) rfl
  have HL := Lib.hid hL
  have HS := Lib.hid hS
  have HN := Lib.hid (fun W => newPrec_any s W hs)
  clear hL hr hS hR hs
  go_enter Tryz.func90, Tryz.ntmps90
  go_wp2_with (first
    | ((with_reducible refine HL.out.mono ?_); clear HL; rintro e w1 (⟨ls, v1, ho, rfl, hE, hls⟩ | ⟨ho, rfl, hE⟩); rotate_left; exact ⟨rfl, .inr ⟨2, provesR_no ho, rfl, hE⟩⟩; have HLs := Lib.hid hls; have HE := Lib.hid hE; have HO1 := Lib.hid ho; have s1 := (HS.out.ext hE).at 0 (y := encS s) rfl; clear ho hE hls)
    | ((with_reducible refine (HN.out w1).mono ?_); clear HN; rintro e w2 (⟨ho, A, K, rfl, hgw, hE, hK⟩ | ⟨ho, rfl, hE⟩); rotate_left; exact ⟨rfl, .inr ⟨2, provesR_bad HO1.out ho, rfl, HE.out.trans hE⟩⟩; have HE2 := Lib.hid hE; have HO2 := Lib.hid ho; have HP := Lib.hid (proves_any (rkOf s) A K v1 ls w2 (okLaws_small HO1.out).1 (okLaws_small HO1.out).2 hgw (HLs.out.ext hE)); clear ho hE hgw)
    | ((with_reducible refine HP.out.mono ?_); clear HP; rintro e w3 ⟨rfl, hk, hg⟩; have HE3 : Hid (Ext W w3) := Lib.hid ((HE.out.trans HE2.out).grown hg (some_le (Nat.le_trans HE.out.size hK))); clear hk hg))
  cases hq : provesT (rkOf s) ls with
  | true =>
    have HQ := Lib.hid hq
    clear hq
    refine (demand_yes _ _).mono ?_
    rintro e w4 ⟨rfl, rfl⟩
    go_wp2
    go_end0
    exact .inl ⟨provesR_yes HO1.out HO2.out HQ.out, rfl, HE3.out⟩
  | false =>
    refine (demand_no _ _).mono ?_
    rintro e w4 ⟨rfl, rfl⟩
    exact ⟨rfl, .inr ⟨10, provesR_not HO1.out HO2.out hq, rfl, HE3.out⟩⟩

/-- What an exported function hands back that answers by an error alone. -/
def OutE (r : Except Int Unit) (w : World) (e : Ending) (w' : World) : Prop := e = .returned (.int .i64 (errOf r)) ∧ Ext w w'

theorem Proves_any (rs : List (Str × Str)) (s : Str) (v : Value) (w : World) (hs : s.length ≤ 1000000000) (hr : IsRules w v rs) : Calls Tryz.prog 37 #[v, encS s] w (OutE (provesR rs s) w) := by
  obtain ⟨p, c, rfl⟩ := hr.slice
  have hmf : ∀ (fn : Fn) (first cap : Array Value) (w : World), (Instr.makeFunc fn first cap).run Tryz.prog w = .ok (.func fn first cap) w := fun _ _ _ _ => rfl
  have HR := Lib.hid hr
  clear hr
  unfold encS
  go_enter Tryz.func37, Tryz.ntmps37
  go_wp2_with fail
  obtain ⟨W0, hW0, hb0, hb1, hE, hsz⟩ := boxes2 w #[.slice p rs.length c] 35 #[.string ⟨s.toArray⟩] 9
  rw [hW0]
  have hf := proves1c_any rs s w.heap.size (w.heap.size + 1) (.slice p rs.length c) _ hs (hb0.alloc (.cells #[.int .i64 0] 26)) (HR.out.ext (hE.alloc _)) (hb1.alloc _)
  refine (guard_ranE (provesR rs s) 90 _ (fun _ _ => by kernel_rfl) W0 (by simpa using hf)).mono ?_
  rintro e w' ⟨rfl, hx⟩
  have HE := Lib.hid (hE.trans hx)
  clear hW0 hb0 hb1 hE hf hx
  go_wp2
  go_ret
  exact ⟨rfl, HE.out⟩

end Go.Proofs.YtholmlkjcobkdaaGreat
