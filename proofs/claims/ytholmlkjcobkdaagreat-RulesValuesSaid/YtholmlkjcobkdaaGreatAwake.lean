/- The law's 'awake'. -/
import Derived.Test.YtholmlkjcobkdaaGreatLTexts
import Derived.Test.YtholmlkjcobkdaaGreatValX
namespace Go.Proofs.YtholmlkjcobkdaaGreat
set_option linter.all false
set_option linter.unusedSimpArgs false
set_option linter.unusedVariables false
open Go.RowKit
set_option maxRecDepth 100000

/-- e(x,y), e(y,x), c(d(x)), d(c(x)), e(a,b), e(b,a), f(c(b),x) -/
def sExy : Str := [101, 40, 120, 44, 121, 41]
def sEyx : Str := [101, 40, 121, 44, 120, 41]
def sCdx : Str := [99, 40, 100, 40, 120, 41, 41]
def sDcx : Str := [100, 40, 99, 40, 120, 41, 41]
def sEab : Str := [101, 40, 97, 44, 98, 41]
def sEba : Str := [101, 40, 98, 44, 97, 41]
def sFcbx : Str := [102, 40, 99, 40, 98, 41, 44, 120, 41]
def rdEx : List (List Int) := [[0], [1], [1, 1], [0, 1], [0, 1, 1], [0, 1, 2]]

def sAf : Str := [97, 98, 99, 100, 101, 102]

theorem ex_next : nextR [(sExy, sEyx)] sEab = .ok [sEba] := by kernel_rfl
theorem ex_laws : okLaws [(sExy, sEyx)] = some [(.p false (.v 0) (.v 1), .p false (.v 1) (.v 0))] := by kernel_rfl
theorem ex_laws2 : okLaws [(sCdx, sDcx)] = some [(.u false (.u true (.v 0)), .u true (.u false (.v 0)))] := by kernel_rfl
theorem ex_gt : (Tm.u false (.u true (.v 0))).gt (rkOf sAf) (.u true (.u false (.v 0))) = true := by
  have r1 : rkOf sAf (Tm.u false (.u true (.v 0))).sym = 2 := by decide +kernel
  have r2 : rkOf sAf (Tm.u true (.u false (.v 0))).sym = 3 := by decide +kernel
  have r3 : rkOf sAf (Tm.u false (.v 0)).sym = 2 := by decide +kernel
  have r4 : rkOf sAf (Tm.u true (.v 0)).sym = 3 := by decide +kernel
  have a1 : (Tm.u true (.v 0)).gt (rkOf sAf) (.v 0) = true := by rw [gt_to_v]; decide +kernel
  have a2 : (Tm.u false (.u true (.v 0))).gt (rkOf sAf) (.v 0) = true := by rw [gt_to_v]; decide +kernel
  have n1 : (Tm.v 0).gt (rkOf sAf) (.u false (.v 0)) = false := gt_of_v _ _ rfl
  have n2 : (Tm.v 0).gt (rkOf sAf) (.u true (.u false (.v 0))) = false := gt_of_v _ _ rfl
  have n3 : (Tm.u true (.v 0)).gt (rkOf sAf) (.u false (.v 0)) = false :=
    gt_rank rfl rfl (fun u hu => by simp [Tm.kids] at hu; subst hu; exact ⟨by decide, n1⟩) (by rw [r3, r4]; decide)
  have n4 : (Tm.u true (.v 0)).gt (rkOf sAf) (.u true (.u false (.v 0))) = false :=
    gt_part rfl rfl (fun u hu => by simp [Tm.kids] at hu; subst hu; exact ⟨by decide, n2⟩) (u := .u false (.v 0)) (by simp [Tm.kids]) n3
  have a3 : (Tm.u false (.u true (.v 0))).gt (rkOf sAf) (.u false (.v 0)) = true := by
    have h := gt_lex (rk := rkOf sAf) (s := .u false (.u true (.v 0))) (t := .u false (.v 0)) (d := 0) (a := .u true (.v 0)) (b := .v 0) rfl rfl (fun u hu => by simp [Tm.kids] at hu; subst hu; exact ⟨by decide, n3⟩) (by rw [r1, r3]; decide) (fun u hu => by simp [Tm.kids] at hu; subst hu; exact a2) rfl rfl rfl rfl (by decide)
    rw [h]
    exact a1
  exact gt_more rfl rfl (fun u hu => by simp [Tm.kids] at hu; subst hu; exact ⟨by decide, n4⟩) (by rw [r1, r2]; decide) (fun u hu => by simp [Tm.kids] at hu; subst hu; exact a3) (by decide)

theorem ex_ext {f : Str → Bool} (hf : f sAf = true) : extS f 6 [] = some sAf := by
  have h0 : extS f 0 [97, 98, 99, 100, 101, 102] = some sAf := by simp only [extS]; rw [show f [97, 98, 99, 100, 101, 102] = true from hf]; rfl
  have h1 : extS f 1 [97, 98, 99, 100, 101] = some sAf := by
    show symsB.findSome? (fun c => if c ∈ [97, 98, 99, 100, 101] then none else extS f 0 ([97, 98, 99, 100, 101] ++ [c])) = _
    simp [symsB, List.findSome?_cons, h0]
  have h2 : extS f 2 [97, 98, 99, 100] = some sAf := by
    show symsB.findSome? (fun c => if c ∈ [97, 98, 99, 100] then none else extS f 1 ([97, 98, 99, 100] ++ [c])) = _
    simp [symsB, List.findSome?_cons, h1]
  have h3 : extS f 3 [97, 98, 99] = some sAf := by
    show symsB.findSome? (fun c => if c ∈ [97, 98, 99] then none else extS f 2 ([97, 98, 99] ++ [c])) = _
    simp [symsB, List.findSome?_cons, h2]
  have h4 : extS f 4 [97, 98] = some sAf := by
    show symsB.findSome? (fun c => if c ∈ [97, 98] then none else extS f 3 ([97, 98] ++ [c])) = _
    simp [symsB, List.findSome?_cons, h3]
  have h5 : extS f 5 [97] = some sAf := by
    show symsB.findSome? (fun c => if c ∈ [97] then none else extS f 4 ([97] ++ [c])) = _
    simp [symsB, List.findSome?_cons, h4]
  show symsB.findSome? (fun c => if c ∈ [] then none else extS f 5 ([] ++ [c])) = _
  simp [symsB, List.findSome?_cons, h5]

theorem ex_orient : orientR [(sCdx, sDcx)] = .ok sAf := by
  refine orientR_some ex_laws2 (ex_ext ?_)
  simp [provesS, provesT, ex_gt]

theorem ex_value : ∃ f, valueR rdEx sFcbx = .ok f ∧ vals f = #[.int .i64 2, .int .i64 2, .int .i64 0, .int .i64 0] := by
  have hp : Tm.parse sFcbx = some (.p true (.u false (.k true)) (.v 0)) := by kernel_rfl
  refine ⟨_, valueR_ok (by decide +kernel) hp (by decide), ?_⟩
  kernel_rfl

theorem ex_loop : isLoopR [(sExy, sEyx)] [sExy, sEyx] = .ok () := by
  have hm : [sExy, sEyx].mapM Tm.parse = some [.p false (.v 0) (.v 1), .p false (.v 1) (.v 0)] := by kernel_rfl
  refine isLoopR_yes ex_laws hm (by decide) ⟨by decide, fun i a b ha hb => ?_, fun a b ha hb => ?_⟩
  · match i, ha, hb with
    | 0, ha, hb => cases ha; cases hb; decide +kernel
    | 1, ha, hb => simp at hb
    | i + 2, ha, hb => simp at ha
  · cases ha; cases hb; decide +kernel

theorem OwnS.isSs {base : Nat} {w : World} {v : Value} {l : List Str} (h : OwnS base w v l) : IsSs w v l := by
  by_cases hn : 0 < l.length
  · obtain ⟨g, cap, rfl, hb, hlt, hc, hcell, -⟩ := owns_form h hn
    refine ⟨_, cap, rfl, hc, fun j s hj => ⟨g, 0, rfl, ?_⟩⟩
    rw [Nat.zero_add]
    exact hcell j (encS s) (by rw [List.getElem?_map, hj]; rfl)
  · obtain ⟨p, c, rfl⟩ := h.slice
    have h0 : l = [] := List.length_eq_zero_iff.1 (by omega)
    subst h0
    exact ⟨p, c, rfl, Nat.zero_le _, fun j s hj => by simp at hj⟩

theorem isRules_one {w : World} {a : Nat} {l r : Str} (h0 : w.cell? ⟨a, 0, none⟩ = some (encS l)) (h1 : w.cell? ⟨a, 1, none⟩ = some (encS r)) : IsRules w (.slice (some ⟨a, 0, none⟩) 1 1) [(l, r)] := by
  refine .inr ⟨a, 0, 1, rfl, lt_of_cell h0, Nat.le_refl _, fun j l' r' hj => ?_⟩
  match j, hj with
  | 0, hj => cases hj; exact ⟨h0, h1⟩

theorem isSs_of {w : World} {a : Nat} {l : List Str} {t : TypeId} (h : Bx w a (l.map encS).toArray t) : IsSs w (.slice (some ⟨a, 0, none⟩) l.length l.length) l :=
  ⟨_, _, rfl, Nat.le_refl _, fun j s hj => ⟨a, 0, rfl, by rw [Nat.zero_add, h.cell]; simp [hj]⟩⟩

theorem isRow_of {w : World} {a : Nat} {r : List Int} {t : TypeId} (h : Bx w a (r.map (Value.int .i64)).toArray t) : IsRow w (.slice (some ⟨a, 0, none⟩) r.length r.length) r :=
  ⟨_, _, rfl, Nat.le_refl _, fun j n hj => ⟨a, 0, rfl, by rw [Nat.zero_add, h.cell]; simp [hj]⟩⟩

theorem rd_made (w : World) : ∃ W, (((((((w.alloc (.cells #[.int .i64 0] 3)).alloc (.cells #[.int .i64 1] 3)).alloc (.cells #[.int .i64 1, .int .i64 1] 3)).alloc (.cells #[.int .i64 0, .int .i64 1] 3)).alloc (.cells #[.int .i64 0, .int .i64 1, .int .i64 1] 3)).alloc (.cells #[.int .i64 0, .int .i64 1, .int .i64 2] 3)).alloc (.cells #[.slice (some ⟨w.heap.size, 0, none⟩) 1 1, .slice (some ⟨w.heap.size + 1, 0, none⟩) 1 1, .slice (some ⟨w.heap.size + 1 + 1, 0, none⟩) 2 2, .slice (some ⟨w.heap.size + 1 + 1 + 1, 0, none⟩) 2 2, .slice (some ⟨w.heap.size + 1 + 1 + 1 + 1, 0, none⟩) 3 3, .slice (some ⟨w.heap.size + 1 + 1 + 1 + 1 + 1, 0, none⟩) 3 3] 43)) = W ∧ IsRd W (.slice (some ⟨w.heap.size + 1 + 1 + 1 + 1 + 1 + 1, 0, none⟩) 6 6) rdEx ∧ Ext w W := by
  refine ⟨_, rfl, ?_, (((((((Ext.new w _).alloc _).alloc _).alloc _).alloc _).alloc _).alloc _)⟩
  have b0 : Bx (((((((w.alloc (.cells #[.int .i64 0] 3)).alloc (.cells #[.int .i64 1] 3)).alloc (.cells #[.int .i64 1, .int .i64 1] 3)).alloc (.cells #[.int .i64 0, .int .i64 1] 3)).alloc (.cells #[.int .i64 0, .int .i64 1, .int .i64 1] 3)).alloc (.cells #[.int .i64 0, .int .i64 1, .int .i64 2] 3)).alloc (.cells #[.slice (some ⟨w.heap.size, 0, none⟩) 1 1, .slice (some ⟨w.heap.size + 1, 0, none⟩) 1 1, .slice (some ⟨w.heap.size + 1 + 1, 0, none⟩) 2 2, .slice (some ⟨w.heap.size + 1 + 1 + 1, 0, none⟩) 2 2, .slice (some ⟨w.heap.size + 1 + 1 + 1 + 1, 0, none⟩) 3 3, .slice (some ⟨w.heap.size + 1 + 1 + 1 + 1 + 1, 0, none⟩) 3 3] 43)) (w.heap.size) #[.int .i64 0] 3 := by
    have h := (((((((Bx.new w #[.int .i64 0] 3).alloc (.cells #[.int .i64 1] 3)).alloc (.cells #[.int .i64 1, .int .i64 1] 3)).alloc (.cells #[.int .i64 0, .int .i64 1] 3)).alloc (.cells #[.int .i64 0, .int .i64 1, .int .i64 1] 3)).alloc (.cells #[.int .i64 0, .int .i64 1, .int .i64 2] 3)).alloc (.cells #[.slice (some ⟨w.heap.size, 0, none⟩) 1 1, .slice (some ⟨w.heap.size + 1, 0, none⟩) 1 1, .slice (some ⟨w.heap.size + 1 + 1, 0, none⟩) 2 2, .slice (some ⟨w.heap.size + 1 + 1 + 1, 0, none⟩) 2 2, .slice (some ⟨w.heap.size + 1 + 1 + 1 + 1, 0, none⟩) 3 3, .slice (some ⟨w.heap.size + 1 + 1 + 1 + 1 + 1, 0, none⟩) 3 3] 43))
    exact h
  have b1 : Bx (((((((w.alloc (.cells #[.int .i64 0] 3)).alloc (.cells #[.int .i64 1] 3)).alloc (.cells #[.int .i64 1, .int .i64 1] 3)).alloc (.cells #[.int .i64 0, .int .i64 1] 3)).alloc (.cells #[.int .i64 0, .int .i64 1, .int .i64 1] 3)).alloc (.cells #[.int .i64 0, .int .i64 1, .int .i64 2] 3)).alloc (.cells #[.slice (some ⟨w.heap.size, 0, none⟩) 1 1, .slice (some ⟨w.heap.size + 1, 0, none⟩) 1 1, .slice (some ⟨w.heap.size + 1 + 1, 0, none⟩) 2 2, .slice (some ⟨w.heap.size + 1 + 1 + 1, 0, none⟩) 2 2, .slice (some ⟨w.heap.size + 1 + 1 + 1 + 1, 0, none⟩) 3 3, .slice (some ⟨w.heap.size + 1 + 1 + 1 + 1 + 1, 0, none⟩) 3 3] 43)) (w.heap.size + 1) #[.int .i64 1] 3 := by
    have h := ((((((Bx.new (w.alloc (.cells #[.int .i64 0] 3)) #[.int .i64 1] 3).alloc (.cells #[.int .i64 1, .int .i64 1] 3)).alloc (.cells #[.int .i64 0, .int .i64 1] 3)).alloc (.cells #[.int .i64 0, .int .i64 1, .int .i64 1] 3)).alloc (.cells #[.int .i64 0, .int .i64 1, .int .i64 2] 3)).alloc (.cells #[.slice (some ⟨w.heap.size, 0, none⟩) 1 1, .slice (some ⟨w.heap.size + 1, 0, none⟩) 1 1, .slice (some ⟨w.heap.size + 1 + 1, 0, none⟩) 2 2, .slice (some ⟨w.heap.size + 1 + 1 + 1, 0, none⟩) 2 2, .slice (some ⟨w.heap.size + 1 + 1 + 1 + 1, 0, none⟩) 3 3, .slice (some ⟨w.heap.size + 1 + 1 + 1 + 1 + 1, 0, none⟩) 3 3] 43))
    rwa [World.size_alloc] at h
  have b2 : Bx (((((((w.alloc (.cells #[.int .i64 0] 3)).alloc (.cells #[.int .i64 1] 3)).alloc (.cells #[.int .i64 1, .int .i64 1] 3)).alloc (.cells #[.int .i64 0, .int .i64 1] 3)).alloc (.cells #[.int .i64 0, .int .i64 1, .int .i64 1] 3)).alloc (.cells #[.int .i64 0, .int .i64 1, .int .i64 2] 3)).alloc (.cells #[.slice (some ⟨w.heap.size, 0, none⟩) 1 1, .slice (some ⟨w.heap.size + 1, 0, none⟩) 1 1, .slice (some ⟨w.heap.size + 1 + 1, 0, none⟩) 2 2, .slice (some ⟨w.heap.size + 1 + 1 + 1, 0, none⟩) 2 2, .slice (some ⟨w.heap.size + 1 + 1 + 1 + 1, 0, none⟩) 3 3, .slice (some ⟨w.heap.size + 1 + 1 + 1 + 1 + 1, 0, none⟩) 3 3] 43)) (w.heap.size + 1 + 1) #[.int .i64 1, .int .i64 1] 3 := by
    have h := (((((Bx.new ((w.alloc (.cells #[.int .i64 0] 3)).alloc (.cells #[.int .i64 1] 3)) #[.int .i64 1, .int .i64 1] 3).alloc (.cells #[.int .i64 0, .int .i64 1] 3)).alloc (.cells #[.int .i64 0, .int .i64 1, .int .i64 1] 3)).alloc (.cells #[.int .i64 0, .int .i64 1, .int .i64 2] 3)).alloc (.cells #[.slice (some ⟨w.heap.size, 0, none⟩) 1 1, .slice (some ⟨w.heap.size + 1, 0, none⟩) 1 1, .slice (some ⟨w.heap.size + 1 + 1, 0, none⟩) 2 2, .slice (some ⟨w.heap.size + 1 + 1 + 1, 0, none⟩) 2 2, .slice (some ⟨w.heap.size + 1 + 1 + 1 + 1, 0, none⟩) 3 3, .slice (some ⟨w.heap.size + 1 + 1 + 1 + 1 + 1, 0, none⟩) 3 3] 43))
    rwa [World.size_alloc, World.size_alloc] at h
  have b3 : Bx (((((((w.alloc (.cells #[.int .i64 0] 3)).alloc (.cells #[.int .i64 1] 3)).alloc (.cells #[.int .i64 1, .int .i64 1] 3)).alloc (.cells #[.int .i64 0, .int .i64 1] 3)).alloc (.cells #[.int .i64 0, .int .i64 1, .int .i64 1] 3)).alloc (.cells #[.int .i64 0, .int .i64 1, .int .i64 2] 3)).alloc (.cells #[.slice (some ⟨w.heap.size, 0, none⟩) 1 1, .slice (some ⟨w.heap.size + 1, 0, none⟩) 1 1, .slice (some ⟨w.heap.size + 1 + 1, 0, none⟩) 2 2, .slice (some ⟨w.heap.size + 1 + 1 + 1, 0, none⟩) 2 2, .slice (some ⟨w.heap.size + 1 + 1 + 1 + 1, 0, none⟩) 3 3, .slice (some ⟨w.heap.size + 1 + 1 + 1 + 1 + 1, 0, none⟩) 3 3] 43)) (w.heap.size + 1 + 1 + 1) #[.int .i64 0, .int .i64 1] 3 := by
    have h := ((((Bx.new (((w.alloc (.cells #[.int .i64 0] 3)).alloc (.cells #[.int .i64 1] 3)).alloc (.cells #[.int .i64 1, .int .i64 1] 3)) #[.int .i64 0, .int .i64 1] 3).alloc (.cells #[.int .i64 0, .int .i64 1, .int .i64 1] 3)).alloc (.cells #[.int .i64 0, .int .i64 1, .int .i64 2] 3)).alloc (.cells #[.slice (some ⟨w.heap.size, 0, none⟩) 1 1, .slice (some ⟨w.heap.size + 1, 0, none⟩) 1 1, .slice (some ⟨w.heap.size + 1 + 1, 0, none⟩) 2 2, .slice (some ⟨w.heap.size + 1 + 1 + 1, 0, none⟩) 2 2, .slice (some ⟨w.heap.size + 1 + 1 + 1 + 1, 0, none⟩) 3 3, .slice (some ⟨w.heap.size + 1 + 1 + 1 + 1 + 1, 0, none⟩) 3 3] 43))
    rwa [World.size_alloc, World.size_alloc, World.size_alloc] at h
  have b4 : Bx (((((((w.alloc (.cells #[.int .i64 0] 3)).alloc (.cells #[.int .i64 1] 3)).alloc (.cells #[.int .i64 1, .int .i64 1] 3)).alloc (.cells #[.int .i64 0, .int .i64 1] 3)).alloc (.cells #[.int .i64 0, .int .i64 1, .int .i64 1] 3)).alloc (.cells #[.int .i64 0, .int .i64 1, .int .i64 2] 3)).alloc (.cells #[.slice (some ⟨w.heap.size, 0, none⟩) 1 1, .slice (some ⟨w.heap.size + 1, 0, none⟩) 1 1, .slice (some ⟨w.heap.size + 1 + 1, 0, none⟩) 2 2, .slice (some ⟨w.heap.size + 1 + 1 + 1, 0, none⟩) 2 2, .slice (some ⟨w.heap.size + 1 + 1 + 1 + 1, 0, none⟩) 3 3, .slice (some ⟨w.heap.size + 1 + 1 + 1 + 1 + 1, 0, none⟩) 3 3] 43)) (w.heap.size + 1 + 1 + 1 + 1) #[.int .i64 0, .int .i64 1, .int .i64 1] 3 := by
    have h := (((Bx.new ((((w.alloc (.cells #[.int .i64 0] 3)).alloc (.cells #[.int .i64 1] 3)).alloc (.cells #[.int .i64 1, .int .i64 1] 3)).alloc (.cells #[.int .i64 0, .int .i64 1] 3)) #[.int .i64 0, .int .i64 1, .int .i64 1] 3).alloc (.cells #[.int .i64 0, .int .i64 1, .int .i64 2] 3)).alloc (.cells #[.slice (some ⟨w.heap.size, 0, none⟩) 1 1, .slice (some ⟨w.heap.size + 1, 0, none⟩) 1 1, .slice (some ⟨w.heap.size + 1 + 1, 0, none⟩) 2 2, .slice (some ⟨w.heap.size + 1 + 1 + 1, 0, none⟩) 2 2, .slice (some ⟨w.heap.size + 1 + 1 + 1 + 1, 0, none⟩) 3 3, .slice (some ⟨w.heap.size + 1 + 1 + 1 + 1 + 1, 0, none⟩) 3 3] 43))
    rwa [World.size_alloc, World.size_alloc, World.size_alloc, World.size_alloc] at h
  have b5 : Bx (((((((w.alloc (.cells #[.int .i64 0] 3)).alloc (.cells #[.int .i64 1] 3)).alloc (.cells #[.int .i64 1, .int .i64 1] 3)).alloc (.cells #[.int .i64 0, .int .i64 1] 3)).alloc (.cells #[.int .i64 0, .int .i64 1, .int .i64 1] 3)).alloc (.cells #[.int .i64 0, .int .i64 1, .int .i64 2] 3)).alloc (.cells #[.slice (some ⟨w.heap.size, 0, none⟩) 1 1, .slice (some ⟨w.heap.size + 1, 0, none⟩) 1 1, .slice (some ⟨w.heap.size + 1 + 1, 0, none⟩) 2 2, .slice (some ⟨w.heap.size + 1 + 1 + 1, 0, none⟩) 2 2, .slice (some ⟨w.heap.size + 1 + 1 + 1 + 1, 0, none⟩) 3 3, .slice (some ⟨w.heap.size + 1 + 1 + 1 + 1 + 1, 0, none⟩) 3 3] 43)) (w.heap.size + 1 + 1 + 1 + 1 + 1) #[.int .i64 0, .int .i64 1, .int .i64 2] 3 := by
    have h := ((Bx.new (((((w.alloc (.cells #[.int .i64 0] 3)).alloc (.cells #[.int .i64 1] 3)).alloc (.cells #[.int .i64 1, .int .i64 1] 3)).alloc (.cells #[.int .i64 0, .int .i64 1] 3)).alloc (.cells #[.int .i64 0, .int .i64 1, .int .i64 1] 3)) #[.int .i64 0, .int .i64 1, .int .i64 2] 3).alloc (.cells #[.slice (some ⟨w.heap.size, 0, none⟩) 1 1, .slice (some ⟨w.heap.size + 1, 0, none⟩) 1 1, .slice (some ⟨w.heap.size + 1 + 1, 0, none⟩) 2 2, .slice (some ⟨w.heap.size + 1 + 1 + 1, 0, none⟩) 2 2, .slice (some ⟨w.heap.size + 1 + 1 + 1 + 1, 0, none⟩) 3 3, .slice (some ⟨w.heap.size + 1 + 1 + 1 + 1 + 1, 0, none⟩) 3 3] 43))
    rwa [World.size_alloc, World.size_alloc, World.size_alloc, World.size_alloc, World.size_alloc] at h
  have b6 : Bx (((((((w.alloc (.cells #[.int .i64 0] 3)).alloc (.cells #[.int .i64 1] 3)).alloc (.cells #[.int .i64 1, .int .i64 1] 3)).alloc (.cells #[.int .i64 0, .int .i64 1] 3)).alloc (.cells #[.int .i64 0, .int .i64 1, .int .i64 1] 3)).alloc (.cells #[.int .i64 0, .int .i64 1, .int .i64 2] 3)).alloc (.cells #[.slice (some ⟨w.heap.size, 0, none⟩) 1 1, .slice (some ⟨w.heap.size + 1, 0, none⟩) 1 1, .slice (some ⟨w.heap.size + 1 + 1, 0, none⟩) 2 2, .slice (some ⟨w.heap.size + 1 + 1 + 1, 0, none⟩) 2 2, .slice (some ⟨w.heap.size + 1 + 1 + 1 + 1, 0, none⟩) 3 3, .slice (some ⟨w.heap.size + 1 + 1 + 1 + 1 + 1, 0, none⟩) 3 3] 43)) (w.heap.size + 1 + 1 + 1 + 1 + 1 + 1) #[.slice (some ⟨w.heap.size, 0, none⟩) 1 1, .slice (some ⟨w.heap.size + 1, 0, none⟩) 1 1, .slice (some ⟨w.heap.size + 1 + 1, 0, none⟩) 2 2, .slice (some ⟨w.heap.size + 1 + 1 + 1, 0, none⟩) 2 2, .slice (some ⟨w.heap.size + 1 + 1 + 1 + 1, 0, none⟩) 3 3, .slice (some ⟨w.heap.size + 1 + 1 + 1 + 1 + 1, 0, none⟩) 3 3] 43 := by
    have h := Bx.new ((((((w.alloc (.cells #[.int .i64 0] 3)).alloc (.cells #[.int .i64 1] 3)).alloc (.cells #[.int .i64 1, .int .i64 1] 3)).alloc (.cells #[.int .i64 0, .int .i64 1] 3)).alloc (.cells #[.int .i64 0, .int .i64 1, .int .i64 1] 3)).alloc (.cells #[.int .i64 0, .int .i64 1, .int .i64 2] 3)) #[.slice (some ⟨w.heap.size, 0, none⟩) 1 1, .slice (some ⟨w.heap.size + 1, 0, none⟩) 1 1, .slice (some ⟨w.heap.size + 1 + 1, 0, none⟩) 2 2, .slice (some ⟨w.heap.size + 1 + 1 + 1, 0, none⟩) 2 2, .slice (some ⟨w.heap.size + 1 + 1 + 1 + 1, 0, none⟩) 3 3, .slice (some ⟨w.heap.size + 1 + 1 + 1 + 1 + 1, 0, none⟩) 3 3] 43
    rwa [World.size_alloc, World.size_alloc, World.size_alloc, World.size_alloc, World.size_alloc, World.size_alloc] at h
  refine ⟨_, 6, rfl, by decide, fun j r hj => ?_⟩
  match j, hj with
  | 0, hj => cases hj; exact ⟨_, 0, _, rfl, b6.at 0 rfl, isRow_of (r := [0]) b0⟩
  | 1, hj => cases hj; exact ⟨_, 0, _, rfl, b6.at 1 rfl, isRow_of (r := [1]) b1⟩
  | 2, hj => cases hj; exact ⟨_, 0, _, rfl, b6.at 2 rfl, isRow_of (r := [1, 1]) b2⟩
  | 3, hj => cases hj; exact ⟨_, 0, _, rfl, b6.at 3 rfl, isRow_of (r := [0, 1]) b3⟩
  | 4, hj => cases hj; exact ⟨_, 0, _, rfl, b6.at 4 rfl, isRow_of (r := [0, 1, 1]) b4⟩
  | 5, hj => cases hj; exact ⟨_, 0, _, rfl, b6.at 5 rfl, isRow_of (r := [0, 1, 2]) b5⟩
  | n + 6, hj => simp [rdEx] at hj

set_option maxHeartbeats 4000000 in
theorem awake_any (w : World) : Calls Tryz.prog 24 #[] w fun e w' => e = .returned (.bool true) ∧ Ext w w' := by
  have hnx : ∀ W v, IsRules W v [(sExy, sEyx)] → Calls Tryz.prog 49 #[v, .string ⟨#[101, 40, 97, 44, 98, 41]⟩] W (OutS (nextR [(sExy, sEyx)] sEab) W) := fun W v h => Next_any [(sExy, sEyx)] sEab v W h
  have HNx := Lib.hid hnx
  clear hnx
  go_enter Tryz.func24, Tryz.ntmps24
  go_upto_region 2 with fail
  have hb1 := Bx.new w #[.string ⟨#[101, 40, 120, 44, 121, 41]⟩, .string ⟨#[101, 40, 121, 44, 120, 41]⟩] 94
  have hE1 := Ext.new w (.cells #[.string ⟨#[101, 40, 120, 44, 121, 41]⟩, .string ⟨#[101, 40, 121, 44, 120, 41]⟩] 94)
  generalize w.alloc (.cells #[.string ⟨#[101, 40, 120, 44, 121, 41]⟩, .string ⟨#[101, 40, 121, 44, 120, 41]⟩] 94) = W1 at hb1 hE1 ⊢
  generalize w.heap.size = n at hb1 ⊢
  have hr1 : IsRules W1 (.slice (some ⟨n, 0, none⟩) 1 1) [(sExy, sEyx)] := isRules_one (hb1.at 0 (y := encS sExy) rfl) (hb1.at 1 (y := encS sEyx) rfl)
  have HR1 := Lib.hid hr1
  have HE1 := Lib.hid hE1
  clear hb1 hE1 hr1
  go_upto_region 3 with fail
  refine (HNx.out _ _ HR1.out).mono ?_
  rw [ex_next]
  rintro e w2 (⟨l, v, ho, rfl, hown, hE⟩ | ⟨m, ho, -, -⟩)
  rotate_left
  · cases ho
  cases ho
  have HOw := Lib.hid hown.isSs
  have HE2 := Lib.hid (HE1.out.trans hE)
  have HR2 := Lib.hid (HR1.out.ext hE)
  clear hown hE
  go_upto_region 3 with fail
  clear HNx HR1 HE1
  have hor : ∀ W v, IsRules W v [(sCdx, sDcx)] → Calls Tryz.prog 36 #[v] W (OutV encS (encS []) (orientR [(sCdx, sDcx)]) W) := fun W v h => Orient_any [(sCdx, sDcx)] v W h
  have hvl : ∀ W v, IsRd W v rdEx → Calls Tryz.prog 22 #[v, .string ⟨#[102, 40, 99, 40, 98, 41, 44, 120, 41]⟩] W (OutV (fun f => .agg (vals f)) (.agg zero4) (valueR rdEx sFcbx) W) := fun W v h => Value_any rdEx sFcbx v W (by decide) (by decide) h
  have HOr := Lib.hid hor
  have HVl := Lib.hid hvl
  have hb3 := Bx.new w2 #[.string ⟨#[99, 40, 100, 40, 120, 41, 41]⟩, .string ⟨#[100, 40, 99, 40, 120, 41, 41]⟩] 94
  have HR3 : Hid (IsRules (w2.alloc (.cells #[.string ⟨#[99, 40, 100, 40, 120, 41, 41]⟩, .string ⟨#[100, 40, 99, 40, 120, 41, 41]⟩] 94)) (.slice (some ⟨w2.heap.size, 0, none⟩) 1 1) [(sCdx, sDcx)]) :=
    Lib.hid (isRules_one (hb3.at 0 (y := encS sCdx) rfl) (hb3.at 1 (y := encS sDcx) rfl))
  clear hb3 hor hvl
  go_upto_region 4 with fail
  refine (HOr.out _ _ HR3.out).mono ?_
  rw [ex_orient]
  rintro e w3 ⟨⟨s, ho, rfl⟩ | ⟨m, ho, -⟩, hE⟩
  rotate_left
  · cases ho
  cases ho
  have HE3 := Lib.hid ((Ext.new w2 _).trans hE)
  have HOw3 := Lib.hid (HOw.out.ext HE3.out)
  have HR23 := Lib.hid (HR2.out.ext HE3.out)
  have HE23 := Lib.hid (HE2.out.trans HE3.out)
  clear hE HOr HR3 HOw HR2 HE2 HE3
  unfold encS sAf
  go_upto_region 4 with fail
  go_wp2_with fail
  obtain ⟨W4, hW4, hrd4, hE4⟩ := rd_made w3
  rw [hW4]
  refine (HVl.out _ _ hrd4).mono ?_
  obtain ⟨f, hf, hfv⟩ := ex_value
  rw [hf]
  rintro e w5 ⟨⟨g, ho, rfl⟩ | ⟨m, ho, -⟩, hE⟩
  rotate_left
  · cases ho
  cases ho
  have hvv : (fun f => Value.agg (vals f)) f = Value.agg #[.int .i64 2, .int .i64 2, .int .i64 0, .int .i64 0] := by show Value.agg (vals f) = _; rw [hfv]
  rw [hvv]
  have hE5 := hE4.trans hE
  have HOw5 := Lib.hid (HOw3.out.ext hE5)
  have HR5 := Lib.hid (HR23.out.ext hE5)
  have HE5 := Lib.hid (HE23.out.trans hE5)
  have hneq : ∀ W, (binOp .neq 25 (.agg #[.int .i64 2, .int .i64 2, .int .i64 0, .int .i64 0]) (.agg #[.int .i64 2, .int .i64 2, .int .i64 0, .int .i64 0])).run Tryz.prog W = .ok (.bool false) W := fun W => by kernel_rfl
  have HNeq := Lib.hid hneq
  clear hW4 hrd4 hE4 hE hE5 hf hfv hvv HVl HOw3 HR23 HE23 hneq
  go_upto_region 5 with fail
  go_wp2_with fail
  obtain ⟨W6, hW6, hb0, hb1, hE6, -⟩ := boxes2 w5 #[.int .i64 2, .int .i64 2, .int .i64 0, .int .i64 0] 25 #[.string ⟨#[101, 40, 98, 44, 97, 41]⟩] 9
  rw [hW6]
  have hs6 : IsSs W6 (.slice (some ⟨w5.heap.size + 1, 0, none⟩) 1 1) [sEba] := isSs_of (l := [sEba]) hb1
  refine (texts_eq [sEba] [sEba] v _ W6 (by decide) (by decide) (HOw5.out.ext hE6) hs6).mono ?_
  rintro e w7 ⟨rfl, hE7⟩
  rw [decide_eq_true (rfl : [sEba] = [sEba])]
  have hb7 := hb0.ext hE7
  have c0 := hb7.at 0 (y := .int .i64 2) rfl
  have c1 := hb7.at 1 (y := .int .i64 2) rfl
  have c2 := hb7.at 2 (y := .int .i64 0) rfl
  have c3 := hb7.at 3 (y := .int .i64 0) rfl
  have HR7 := Lib.hid (HR5.out.ext (hE6.trans hE7))
  have HE7 := Lib.hid (HE5.out.trans (hE6.trans hE7))
  have hneq := HNeq.out
  clear hW6 hb0 hb1 hE6 hs6 hE7 hb7 HOw5 HR5 HE5 HNeq
  go_upto_region 7 with fail
  clear c0 c1 c2 c3 hneq
  go_wp2_with fail
  have hb8 := Bx.new w7 #[.string ⟨#[101, 40, 120, 44, 121, 41]⟩, .string ⟨#[101, 40, 121, 44, 120, 41]⟩] 9
  have hE8 := Ext.new w7 (.cells #[.string ⟨#[101, 40, 120, 44, 121, 41]⟩, .string ⟨#[101, 40, 121, 44, 120, 41]⟩] 9)
  have hs8 := isSs_of (l := [sExy, sEyx]) hb8
  refine (IsLoop_any [(sExy, sEyx)] [sExy, sEyx] _ _ _ (by decide) (HR7.out.ext hE8) hs8).mono ?_
  rw [ex_loop]
  rintro e w9 ⟨rfl, hE9⟩
  have HE9 := Lib.hid (HE7.out.trans (hE8.trans hE9))
  clear hb8 hE8 hs8 hE9 HR7 HE7
  unfold errOf
  go_wp2_with fail
  go_ret
  exact ⟨rfl, HE9.out⟩

end Go.Proofs.YtholmlkjcobkdaaGreat
