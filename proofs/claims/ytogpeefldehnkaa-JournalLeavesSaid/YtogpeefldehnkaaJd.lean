/- journal: which line stands ahead, which may be -/
import Derived.Test.YtogpeefldehnkaaJa
import Derived.Test.YtogpeefldehnkaaJc
import Derived.Test.YtogpeefldehnkaaKL38
set_option linter.unusedVariables false
set_option linter.unusedSimpArgs false
set_option linter.unusedSectionVars false
set_option maxRecDepth 4000
namespace Go.KL.Ytogpeefldehnkaa
open Go Go.KL Go.RowKit Go.Proofs

theorem c123 : cFun E0.P 123 = some ⟨6, [(2, none)], .seq (.rg [⟨some 2, none, .mv (.k (.bool false))⟩]) (.seq (.rg [⟨some 3, none, .mv (.t 0)⟩, ⟨some 4, none, .mv (.t 0)⟩, ⟨some 5, none, .bin .neq .leaf (.t 3) (.t 4)⟩, ⟨some 2, none, .mv (.t 5)⟩]) .ret)⟩ := by kernel_rfl
theorem c85 : cFun E0.P 85 = some ⟨20, [(4, none)], .seq (.rg [⟨some 4, none, .mv (.k (.int .i64 0))⟩]) (.seq (.rg [⟨some 7, none, .mv (.t 0)⟩, ⟨some 8, none, .call 123 [.t 7]⟩, ⟨some 5, none, .mv (.t 8)⟩]) (.seq (.rg [⟨some 9, none, .mv (.t 1)⟩, ⟨some 10, none, .call 123 [.t 9]⟩, ⟨some 6, none, .mv (.t 10)⟩]) (.seq (.seq (.rg [⟨some 11, none, .mv (.t 5)⟩]) (.cond (.t 11) (.seq (.seq (.rg [⟨some 12, none, .mv (.t 6)⟩]) (.cond (.t 12) (.seq (.rg [⟨some 4, none, .mv (.k (.int .i64 0))⟩]) .ret) .skip)) (.seq (.rg [⟨some 4, none, .mv (.k (.int .i64 (-1)))⟩]) .ret)) .skip)) (.seq (.seq (.rg [⟨some 13, none, .mv (.t 6)⟩]) (.cond (.t 13) (.seq (.rg [⟨some 4, none, .mv (.k (.int .i64 1))⟩]) .ret) .skip)) (.seq (.seq (.rg [⟨some 14, none, .mv (.t 0)⟩, ⟨some 15, none, .mv (.t 1)⟩, ⟨some 16, none, .bin .lss .leaf (.t 14) (.t 15)⟩]) (.cond (.t 16) (.seq (.rg [⟨some 4, none, .mv (.k (.int .i64 (-1)))⟩]) .ret) .skip)) (.seq (.seq (.rg [⟨some 17, none, .mv (.t 0)⟩, ⟨some 18, none, .mv (.t 1)⟩, ⟨some 19, none, .bin .gtr .leaf (.t 17) (.t 18)⟩]) (.cond (.t 19) (.seq (.rg [⟨some 4, none, .mv (.k (.int .i64 1))⟩]) .ret) .skip)) (.seq (.rg [⟨some 4, none, .mv (.k (.int .i64 0))⟩]) .ret)))))))⟩ := by kernel_rfl
theorem c84 : cFun E0.P 84 = some ⟨15, [(2, none)], .seq (.rg [⟨some 2, none, .mv (.k (.int .i64 0))⟩]) (.seq (.seq (.rg [⟨some 5, none, .mv (.t 0)⟩, ⟨some 6, none, .len 1 (.t 5)⟩, ⟨some 7, none, .mv (.k (.int .i64 0))⟩]) (.block 0 (.loop (.seq (.rg [⟨some 8, none, .bin .lss .leaf (.t 7) (.t 6)⟩]) (.seq (.cond (.t 8) .skip (.exit 0)) (.seq (.block 1 (.seq (.rg [⟨some 9, none, .ia 1 (.t 5) (.t 7)⟩, ⟨some 10, none, .ld 1 false (.t 9)⟩, ⟨some 4, none, .mv (.t 10)⟩]) (.seq (.rg [⟨some 11, none, .mv (.t 4)⟩, ⟨some 12, none, .bin .neq .leaf (.t 11) (.k (.int .i64 0))⟩]) (.cond (.t 12) (.seq (.rg [⟨some 13, none, .mv (.t 4)⟩, ⟨some 2, none, .mv (.t 13)⟩]) .ret) .skip)))) (.rg [⟨some 14, none, .bin .add .leaf (.t 7) (.k (.int .i64 1))⟩, ⟨some 7, none, .mv (.t 14)⟩]))))))) (.seq (.rg [⟨some 2, none, .mv (.k (.int .i64 0))⟩]) .ret))⟩ := by kernel_rfl
theorem c46 : cFun E0.P 46 = some ⟨22, [(4, none)], .seq (.rg [⟨some 2, none, .box (.t 0) 34⟩, ⟨some 3, none, .box (.t 1) 34⟩, ⟨some 4, none, .mv (.k (.int .i64 0))⟩]) (.seq (.rd [(⟨some 5, none, .fa 0 (.t 2)⟩, none), (⟨some 6, none, .ld 1 false (.t 5)⟩, none), (⟨some 7, none, .fa 0 (.t 3)⟩, none), (⟨some 8, none, .ld 1 false (.t 7)⟩, none), (⟨some 9, none, .bin .sub .leaf (.t 6) (.t 8)⟩, none), (⟨some 10, none, .fa 1 (.t 2)⟩, none), (⟨some 11, none, .ld 1 false (.t 10)⟩, none), (⟨some 12, none, .fa 1 (.t 3)⟩, none), (⟨some 13, none, .ld 1 false (.t 12)⟩, none), (⟨some 14, none, .call 85 [.t 11, .t 13]⟩, none), (⟨some 15, none, .fa 2 (.t 2)⟩, none), (⟨some 16, none, .ld 1 false (.t 15)⟩, none), (⟨some 17, none, .fa 2 (.t 3)⟩, none), (⟨some 18, none, .ld 1 false (.t 17)⟩, none), (⟨some 19, none, .call 85 [.t 16, .t 18]⟩, none), (⟨some 20, none, .buildS 3 1 [.int .i64 0] [(0, .t 9), (1, .t 14), (2, .t 19)] 3⟩, none), (⟨some 21, none, .call 84 [.t 20]⟩, some []), (⟨some 4, none, .mv (.t 21)⟩, none)]) .ret)⟩ := by kernel_rfl
theorem c42 : cFun E0.P 42 = some ⟨26, [(2, none)], .seq (.rg [⟨some 1, none, .box (.t 0) 34⟩, ⟨some 2, none, .mv (.k (.bool false))⟩]) (.seq (.rg [⟨some 3, none, .fa 0 (.t 1)⟩, ⟨some 4, none, .ld 1 false (.t 3)⟩, ⟨some 5, none, .bin .geq .leaf (.t 4) (.k (.int .i64 1))⟩, ⟨some 6, none, .mv (.t 5)⟩, ⟨some 7, some (6, true), .fa 0 (.t 1)⟩, ⟨some 8, some (6, true), .ld 1 false (.t 7)⟩, ⟨some 9, some (6, true), .bin .leq .leaf (.t 8) (.k (.int .i64 9999))⟩, ⟨some 10, none, .pick (.t 6) (.t 9) (.k (.bool false))⟩, ⟨some 11, none, .mv (.t 10)⟩, ⟨some 12, some (11, true), .fa 3 (.t 1)⟩, ⟨some 13, some (11, true), .ld 1 false (.t 12)⟩, ⟨some 14, some (11, true), .bin .neq .leaf (.t 13) (.k (.int .i64 0))⟩, ⟨some 15, none, .pick (.t 11) (.t 14) (.k (.bool false))⟩, ⟨some 16, none, .mv (.t 15)⟩, ⟨some 17, some (16, true), .fa 3 (.t 1)⟩, ⟨some 18, some (16, true), .ld 1 false (.t 17)⟩, ⟨some 19, some (16, true), .bin .geq .leaf (.t 18) (.k (.int .i64 (-4611686018427387904)))⟩, ⟨some 20, none, .pick (.t 16) (.t 19) (.k (.bool false))⟩, ⟨some 21, none, .mv (.t 20)⟩, ⟨some 22, some (21, true), .fa 3 (.t 1)⟩, ⟨some 23, some (21, true), .ld 1 false (.t 22)⟩, ⟨some 24, some (21, true), .bin .leq .leaf (.t 23) (.k (.int .i64 4611686018427387904))⟩, ⟨some 25, none, .pick (.t 21) (.t 24) (.k (.bool false))⟩, ⟨some 2, none, .mv (.t 25)⟩]) .ret)⟩ := by kernel_rfl
theorem c43 : cFun E0.P 43 = some ⟨10, [(2, some (3, true))], .seq (.rg [⟨some 1, none, .box (.t 0) 34⟩, ⟨some 2, none, .alloc [.int .i64 0, .int .u64 0, .int .u64 0] 101⟩]) (.seq (.rg [⟨some 3, none, .fa 0 (.t 1)⟩, ⟨some 4, none, .ld 1 false (.t 3)⟩, ⟨some 5, none, .fa 1 (.t 1)⟩, ⟨some 6, none, .ld 1 false (.t 5)⟩, ⟨some 7, none, .fa 2 (.t 1)⟩, ⟨some 8, none, .ld 1 false (.t 7)⟩, ⟨some 9, none, .build [.int .i64 0, .int .u64 0, .int .u64 0] [(0, 1, .t 4), (1, 1, .t 6), (2, 1, .t 8)]⟩, ⟨none, none, .st 3 (.t 2) (.t 9)⟩]) .ret)⟩ := by kernel_rfl

def cmpI (a b : Int) : Int := if a < b then -1 else if b < a then 1 else 0
def ordI : List Int → Int
  | [] => 0
  | n :: r => if n ≠ 0 then n else ordI r
theorem isNaNU (x : Int) : Pure 123 [.int .u64 x] (.bool false) := by
  intro S tk
  refine ACalls.fgo c123 rfl fun hS => ?_
  repeat' first | with_reducible refine fzD_ite (fun q => ?_) (fun q => ?_) | ((try conv => whnf); first
    | refine bs_d (fun q => ?_) (fun q => ?_)
    | refine bs_n ?_
    | refine bs_i (fun q => ?_) (fun q => ?_)
    | refine eqk rfl ?_
    | refine ffin _ rfl rfl hS (Sub.refl _) rfl ⟨?_, rfl, rfl⟩)
  all_goals first | rfl | omega
theorem compareU (a b : Int) : Pure 85 [.int .u64 a, .int .u64 b] (.int .i64 (cmpI a b)) := by
  intro S tk
  refine ACalls.fgo c85 rfl fun hS => ?_
  repeat' first | with_reducible refine fzD_ite (fun q => ?_) (fun q => ?_) | ((try conv => whnf); first
    | refine bs_d (fun q => ?_) (fun q => ?_)
    | refine bs_n ?_
    | refine bs_i (fun q => ?_) (fun q => ?_)
    | refine ck (by first | rfl | simp) rfl (isNaNU _) ?_
    | refine cq (isNaNU _) ?_
    | refine eqk rfl ?_
    | refine ffin _ rfl rfl hS (Sub.refl _) rfl ⟨?_, rfl, rfl⟩)
  all_goals simp [tupD, cmpI, *]
theorem order3 (a b c : Int) : Pure 84 [.sl (i64s [a, b, c])] (.int .i64 (ordI [a, b, c])) := by
  intro S tk
  refine ACalls.fgo c84 rfl fun hS => ?_
  repeat' first | with_reducible refine fzD_ite (fun q => ?_) (fun q => ?_) | ((try conv => whnf); first
    | refine bs_d (fun q => ?_) (fun q => ?_)
    | refine bs_n ?_
    | refine bs_i (fun q => ?_) (fun q => ?_)
    | refine eqk rfl ?_
    | refine ffin _ rfl rfl hS (Sub.refl _) rfl ⟨?_, rfl, rfl⟩)
  refine floop (α := Nat) rfl rfl hS (fun i => i ≤ 3 ∧ ordI ([a, b, c].drop i) = ordI [a, b, c]) (fun i => 3 - i) (fun i => [(7, .d (.int .i64 i)), (5, .d (.sl (i64s [a, b, c]))), (6, .d (.int .i64 ((3 : Nat) : Int)))]) (fun _ => []) (fun _ => []) 0 ⟨by omega, rfl⟩ (fstep_sub ⟨Sub.refl _, Sub.refl _, Sub.refl _, trivial⟩) ?_
  rintro i ⟨hi, hp⟩
  have : i = 0 ∨ i = 1 ∨ i = 2 ∨ i = 3 := by omega
  rcases this with rfl | rfl | rfl | rfl
  · skip
    repeat' first | with_reducible refine fzD_ite (fun q => ?_) (fun q => ?_) | ((try conv => whnf); first
      | refine bs_d (fun q => ?_) (fun q => ?_)
      | refine bs_n ?_
      | refine bs_i (fun q => ?_) (fun q => ?_)
      | refine pK_i (iaD_i64s (a := a) (by omega) rfl) ?_
      | refine eqk rfl ?_
      | refine ffin _ rfl rfl hS (Sub.refl _) rfl ⟨?_, rfl, rfl⟩)
    · have hq : a = 0 := q
      conv => whnf
      refine fnext (α := Nat) 1 ⟨by omega, by simp [ordI, hq]⟩ (by omega) (fstep_sub ⟨Sub.int (by first | rfl | omega | (refine Int.sub_eq_zero.mp ?_; simp (disch := ((try unfold I64); omega)) only [wi64_id, td]; omega)), Sub.refl _, Sub.refl _, trivial⟩)
    · have hq : a ≠ 0 := q
      simp [tupD, ordI, hq]
  · skip
    repeat' first | with_reducible refine fzD_ite (fun q => ?_) (fun q => ?_) | ((try conv => whnf); first
      | refine bs_d (fun q => ?_) (fun q => ?_)
      | refine bs_n ?_
      | refine bs_i (fun q => ?_) (fun q => ?_)
      | refine pK_i (iaD_i64s (a := b) (by omega) rfl) ?_
      | refine eqk rfl ?_
      | refine ffin _ rfl rfl hS (Sub.refl _) rfl ⟨?_, rfl, rfl⟩)
    · have hq : b = 0 := q
      conv => whnf
      refine fnext (α := Nat) 2 ⟨by omega, by rw [← hp]; simp [ordI, hq]⟩ (by omega) (fstep_sub ⟨Sub.int (by first | rfl | omega | (refine Int.sub_eq_zero.mp ?_; simp (disch := ((try unfold I64); omega)) only [wi64_id, td]; omega)), Sub.refl _, Sub.refl _, trivial⟩)
    · have hq : b ≠ 0 := q
      rw [← hp]
      simp [tupD, ordI, hq]
  · skip
    repeat' first | with_reducible refine fzD_ite (fun q => ?_) (fun q => ?_) | ((try conv => whnf); first
      | refine bs_d (fun q => ?_) (fun q => ?_)
      | refine bs_n ?_
      | refine bs_i (fun q => ?_) (fun q => ?_)
      | refine pK_i (iaD_i64s (a := c) (by omega) rfl) ?_
      | refine eqk rfl ?_
      | refine ffin _ rfl rfl hS (Sub.refl _) rfl ⟨?_, rfl, rfl⟩)
    · have hq : c = 0 := q
      conv => whnf
      refine fnext (α := Nat) 3 ⟨by omega, by rw [← hp]; simp [ordI, hq]⟩ (by omega) (fstep_sub ⟨Sub.int (by first | rfl | omega | (refine Int.sub_eq_zero.mp ?_; simp (disch := ((try unfold I64); omega)) only [wi64_id, td]; omega)), Sub.refl _, Sub.refl _, trivial⟩)
    · have hq : c ≠ 0 := q
      rw [← hp]
      simp [tupD, ordI, hq]
  · skip
    repeat' first | with_reducible refine fzD_ite (fun q => ?_) (fun q => ?_) | ((try conv => whnf); first
      | refine bs_d (fun q => ?_) (fun q => ?_)
      | refine bs_n ?_
      | refine bs_i (fun q => ?_) (fun q => ?_)
      | refine eqk rfl ?_
      | refine ffin _ rfl rfl hS (Sub.refl _) rfl ⟨?_, rfl, rfl⟩)
    rw [← hp]; rfl
def aheadI (x y : CL.Lm) : Int := ordI [x.acc - y.acc, cmpI x.cus y.cus, cmpI x.con y.con]
theorem ahead (x y : CL.Lm) : Pure 46 [CL.eD x, CL.eD y] (.int .i64 (aheadI x y)) := by
  intro S tk
  have h1 := x.ok
  have h2 := y.ok
  have hw : IntKind.wrap .i64 (x.acc - y.acc) = x.acc - y.acc := wi64_id (by unfold I64; omega)
  refine ACalls.fgo c46 rfl fun hS => ?_
  repeat' first | with_reducible refine fzD_ite (fun q => ?_) (fun q => ?_) | ((try conv => whnf); first
    | refine bs_d (fun q => ?_) (fun q => ?_)
    | refine bs_n ?_
    | refine bs_i (fun q => ?_) (fun q => ?_)
    | refine ck (by first | rfl | simp) rfl (compareU _ _) ?_
    | refine cq (compareU _ _) ?_
    | refine ck (by first | rfl | simp) rfl (order3 _ _ _) ?_
    | refine cq (order3 _ _ _) ?_
    | refine eqk rfl ?_
    | refine ffin _ rfl rfl hS (Sub.refl _) rfl ⟨?_, rfl, rfl⟩)
  rw [hw]; rfl
theorem may (x : Ln) : Pure 42 [x.d] (.bool (decide x.may)) := by
  intro S tk
  refine ACalls.fgo c42 rfl fun hS => ?_
  repeat' first | with_reducible refine fzD_ite (fun q => ?_) (fun q => ?_) | ((try conv => whnf); first
    | refine bs_d (fun q => ?_) (fun q => ?_)
    | refine bs_n ?_
    | refine bs_i (fun q => ?_) (fun q => ?_)
    | refine eqk rfl ?_
    | refine ffin _ rfl rfl hS (Sub.refl _) rfl ⟨?_, rfl, rfl⟩)
  all_goals
    simp only [tupD, D.bool.injEq, Ln.may, Bool.true_eq, Bool.false_eq, decide_eq_true_eq, decide_eq_false_iff_not, decide_eq_decide]
    first
      | exact decide_eq_true (by omega)
      | exact decide_eq_false (by omega)
def tD (t : Ti) : D := .agg [.int .i64 t.1, .int .u64 t.2.1, .int .u64 t.2.2]
theorem titleOf (x : Ln) : Pure 43 [x.d] (tD x.t) := by
  intro S tk
  refine ACalls.fgo c43 rfl fun hS => ?_
  repeat' first | with_reducible refine fzD_ite (fun q => ?_) (fun q => ?_) | ((try conv => whnf); first
    | refine bs_d (fun q => ?_) (fun q => ?_)
    | refine bs_n ?_
    | refine bs_i (fun q => ?_) (fun q => ?_)
    | refine eqk rfl ?_
    | refine ffin _ rfl rfl hS (Sub.refl _) rfl ⟨?_, rfl, rfl⟩)
  all_goals rfl
theorem ordI3 (a b c : Int) : ordI [a, b, c] = if a ≠ 0 then a else if b ≠ 0 then b else if c ≠ 0 then c else 0 := rfl
theorem cmpI_neg (a b : Int) : cmpI a b < 0 ↔ a < b := by unfold cmpI; split <;> (try split) <;> omega
theorem cmpI_zero (a b : Int) : cmpI a b = 0 ↔ a = b := by unfold cmpI; split <;> (try split) <;> omega
def CL.Lm.n (x : CL.Lm) : Ln := ⟨x.acc, x.cus, x.con, x.amt⟩
theorem ahead_lt (x y : CL.Lm) : aheadI x y < 0 ↔ x.n.lt y.n := by
  have h1 := cmpI_neg x.cus y.cus
  have h2 := cmpI_zero x.cus y.cus
  have h3 := cmpI_neg x.con y.con
  rw [aheadI, ordI3]
  simp only [Ln.lt, Ti.lt, Ln.t, CL.Lm.n]
  split
  · omega
  · split
    · omega
    · split <;> omega
theorem swo_ahead : Go.Sort.SWO (CL.ltC aheadI) where
  irrefl x := by
    simp only [CL.ltC, decide_eq_false_iff_not, ahead_lt]
    exact Ti.lt_irrefl _
  trans x y z h1 h2 := by
    simp only [CL.ltC, decide_eq_true_eq, ahead_lt] at *
    exact Ti.lt_trans h1 h2
  ntrans x y z h1 h2 := by
    simp only [CL.ltC, decide_eq_false_iff_not, ahead_lt] at *
    intro h
    unfold Ln.lt at *
    rcases Ti.tri x.n.t y.n.t with h3 | h3 | h3
    · exact h1 h3
    · rw [h3] at h; exact h2 h
    · exact h2 (Ti.lt_trans h3 h)
theorem aheadQ (id n : Nat) : CL.CmpQ (fun _ => True) id n 46 [] aheadI where
  ok := rfl
  app _ _ _ := trivial
  call _ S d tk x y _ _ := ahead x y _ _
/-- lines, sorted -/
theorem sorts_lt {d d' : Array CL.Lm} (h : CL.Sorts aheadI 0 d.size d d') (hn : (d.toList.map fun x => x.n.t).Nodup) : d'.toList.Perm d.toList ∧ (d'.toList.map CL.Lm.n).Pairwise Ln.lt := by
  obtain ⟨⟨h1, h2, h3⟩, h4⟩ := h
  have e1 : d'.extract 0 d.size = d' := by rw [← h1]; simp
  have e2 : d.extract 0 d.size = d := by simp
  rw [e1, e2] at h3
  refine ⟨h3, ?_⟩
  rw [List.pairwise_map]
  have hn' : (d'.toList.map fun x => x.n.t).Nodup := (h3.map _).nodup_iff.2 hn
  rw [List.Nodup, List.pairwise_map] at hn'
  refine (hn'.and (List.pairwise_iff_getElem (R := fun a b => ¬ b.n.lt a.n).2 ?_)).imp fun {a b} hab => ?_
  · intro i j hi hj hij
    have := h4 i j (Nat.zero_le _) hij (by rw [← h1]; simpa using hj)
    rw [Array.length_toList] at hi hj
    rw [getElem!_pos d' i hi, getElem!_pos d' j hj] at this
    simp only [CL.ltC, decide_eq_false_iff_not, ahead_lt] at this
    simpa using this
  · rcases Ti.tri a.n.t b.n.t with h | h | h
    · exact h
    · exact absurd h hab.1
    · exact absurd h hab.2
end Go.KL.Ytogpeefldehnkaa

/- journal.Tidy: the map of titles (plain) -/
set_option linter.unusedVariables false
set_option linter.unusedSimpArgs false
set_option linter.unusedSectionVars false
set_option maxRecDepth 4000
namespace Go.KL.Ytogpeefldehnkaa
open Go Go.KL Go.RowKit Go.Proofs

abbrev kTi : KT := .agg [.i .i64, .i .u64, .i .u64]
theorem keyB_tD (a b : Ti) : keyB (tD a) (tD b) = decide (a = b) := by
  obtain ⟨a1, a2, a3⟩ := a
  obtain ⟨b1, b2, b3⟩ := b
  simp only [keyB, tD, lfsB, lfB, Prod.mk.injEq, Bool.and_true, Bool.decide_and]
theorem kOK_tD (t : Ti) : kOK kTi (tD t) = true := rfl
theorem snoc_ind {α : Type} {p : List α → Prop} (h0 : p []) (hs : ∀ l x, p l → p (l ++ [x])) (l : List α) : p l := by
  have : ∀ r : List α, p r.reverse := fun r => by
    induction r with
    | nil => exact h0
    | cons x r ih => rw [List.reverse_cons]; exact hs _ _ ih
  have h := this l.reverse
  rwa [List.reverse_reverse] at h
/-- the titles of lines, each once -/
def tts (l : List Ln) : List Ti := l.foldl (fun ts x => if x.t ∈ ts then ts else ts ++ [x.t]) []
theorem tts_snoc (l : List Ln) (x : Ln) : tts (l ++ [x]) = if x.t ∈ tts l then tts l else tts l ++ [x.t] := by
  unfold tts; rw [List.foldl_append]; rfl
theorem mem_tts (l : List Ln) : ∀ t, t ∈ tts l ↔ t ∈ l.map Ln.t := by
  refine snoc_ind (p := fun l => ∀ t, t ∈ tts l ↔ t ∈ l.map Ln.t) ?_ ?_ l
  · simp [tts]
  · intro l x ih t
    rw [tts_snoc]
    simp only [List.map_append, List.map_cons, List.map_nil, List.mem_append, List.mem_singleton, ← ih]
    split
    · constructor
      · exact .inl
      · rintro (h | rfl)
        · exact h
        · assumption
    · simp
theorem nd_tts (l : List Ln) : (tts l).Nodup := by
  refine snoc_ind (p := fun l => (tts l).Nodup) List.nodup_nil ?_ l
  · intro l x ih
    rw [tts_snoc]
    split
    · exact ih
    · rename_i h
      exact List.nodup_append.2 ⟨ih, by simp, fun a ha b hb hab => h (by rw [List.mem_singleton.1 hb] at hab; exact hab ▸ ha)⟩
theorem tts_len (l : List Ln) : (tts l).length ≤ l.length := by
  refine snoc_ind (p := fun l => (tts l).length ≤ l.length) (by simp [tts]) ?_ l
  · intro l x ih
    rw [tts_snoc, List.length_append]
    split <;> simp <;> omega
theorem amtsT_snoc (l : List Ln) (x : Ln) (t : Ti) : amtsT (l ++ [x]) t = amtsT l t ++ if x.t = t then [x.amt] else [] := by
  rw [amtsT_app]
  by_cases h : x.t = t <;> simp [amtsT, h]

/-- the map's entries: the titles, from a stamp on, each with its amounts, growing -/
def kvT (m0 : Nat) (l : List Ln) : List Ti → Nat → Kv
  | [], _ => []
  | t :: r, n => (tD t, .gsl (i64s (amtsT l t)) (m0 + n), n) :: kvT m0 l r (n + 1)
def tksT (l : List Ln) (e : TypeId) (ts : List Ti) : Tks := ts.map fun t => ((amtsT l t).length, e, 1)
theorem mfind_some' (m0 : Nat) (l : List Ln) (t : Ti) : ∀ (ts : List Ti) (n : Nat), t ∈ ts → ∃ i, ts[i]? = some t ∧ mfind (kvT m0 l ts n) (tD t) = some (tD t, .gsl (i64s (amtsT l t)) (m0 + (n + i)), n + i)
  | [], n, h => by cases h
  | s :: r, n, h => by
    by_cases hs : t = s
    · subst hs
      exact ⟨0, rfl, by simp [mfind, kvT, keyB_tD]⟩
    · obtain ⟨i, h1, h2⟩ := mfind_some' m0 l t r (n + 1) ((List.mem_cons.1 h).resolve_left hs)
      refine ⟨i + 1, by simpa using h1, ?_⟩
      rw [show n + (i + 1) = n + 1 + i from by omega, ← h2]
      simp [mfind, kvT, keyB_tD, hs]
theorem mfind_none' (m0 : Nat) (l : List Ln) (t : Ti) : ∀ (ts : List Ti) (n : Nat), t ∉ ts → mfind (kvT m0 l ts n) (tD t) = none
  | [], n, h => rfl
  | s :: r, n, h => by
    simp only [List.mem_cons, not_or] at h
    have := mfind_none' m0 l t r (n + 1) h.2
    simp only [mfind] at this
    simp [mfind, kvT, keyB_tD, h.1, this]
theorem kvT_other {m0 : Nat} {l : List Ln} {x : Ln} : ∀ (ts : List Ti) (n : Nat), x.t ∉ ts → kvT m0 (l ++ [x]) ts n = kvT m0 l ts n
  | [], n, h => rfl
  | s :: r, n, h => by
    simp only [List.mem_cons, not_or] at h
    rw [kvT, kvT, kvT_other r (n + 1) h.2, amtsT_snoc, if_neg h.1, List.append_nil]
theorem mrepl_kvT (m0 : Nat) (l : List Ln) (x : Ln) : ∀ (ts : List Ti) (n i : Nat), ts.Nodup → ts[i]? = some x.t →
    mrepl (kvT m0 l ts n) (tD x.t) (.gsl (i64s (amtsT l x.t) ++ i64s [x.amt]) (m0 + (n + i))) = kvT m0 (l ++ [x]) ts n
  | [], n, i, _, h => by simp at h
  | s :: r, n, i, hn, h => by
    simp only [List.nodup_cons] at hn
    cases i with
    | zero =>
      simp only [List.getElem?_cons_zero, Option.some.injEq] at h
      subst h
      rw [kvT, kvT, mrepl, keyB_tD, decide_eq_true rfl, if_pos rfl, kvT_other r (n + 1) hn.1, amtsT_snoc, if_pos rfl]
      simp [i64s]
    | succ i =>
      simp only [List.getElem?_cons_succ] at h
      have hm : x.t ∈ r := List.mem_of_getElem? h
      have hne : ¬ x.t = s := fun e => hn.1 (e ▸ hm)
      have ih := mrepl_kvT m0 l x r (n + 1) i hn.2 h
      rw [show n + 1 + i = n + (i + 1) from by omega] at ih
      rw [kvT, kvT, mrepl, keyB_tD, decide_eq_false hne, if_neg (by simp), ih, amtsT_snoc, if_neg hne, List.append_nil]
theorem kvT_app (m0 : Nat) (l : List Ln) : ∀ (ts : List Ti) (t : Ti) (n : Nat), kvT m0 l (ts ++ [t]) n = kvT m0 l ts n ++ [(tD t, .gsl (i64s (amtsT l t)) (m0 + (n + ts.length)), n + ts.length)]
  | [], t, n => rfl
  | s :: r, t, n => by
    rw [List.cons_append, kvT, kvT_app m0 l r t (n + 1), kvT, List.length_cons, show n + 1 + r.length = n + (r.length + 1) from by omega]; rfl
theorem tksT_set {l : List Ln} {x : Ln} {e : TypeId} {ts : List Ti} {i : Nat} (hn : ts.Nodup) (h : ts[i]? = some x.t) : (tksT l e ts).set i ((amtsT l x.t).length + 1, e, 1) = tksT (l ++ [x]) e ts := by
  refine List.ext_getElem? fun j => ?_
  rw [tksT, tksT, List.getElem?_map]
  by_cases hj : i = j
  · subst hj
    rw [List.getElem?_set_self (by rw [List.length_map]; exact (List.getElem?_eq_some_iff.1 h).1), h]
    simp [amtsT_snoc]
  · rw [List.getElem?_set_ne hj, List.getElem?_map]
    cases hs : ts[j]? with
    | none => rfl
    | some s =>
      have hne : ¬ x.t = s := fun e => hj (by
        have h1 := (List.getElem?_eq_some_iff.1 h).1
        exact (List.getElem?_inj h1 hn).1 (by rw [h, hs, e]))
      simp [amtsT_snoc, hne]
theorem tksT_other {l : List Ln} {x : Ln} {e : TypeId} {ts : List Ti} (h : x.t ∉ ts) : tksT (l ++ [x]) e ts = tksT l e ts := by
  refine List.map_congr_left fun t ht => ?_
  have hne : ¬ x.t = t := fun e => h (e ▸ ht)
  rw [amtsT_snoc, if_neg hne, List.append_nil]

/-- one line more: where its title stands, what grows there -/
theorem tidy_old (m0 : Nat) (l : List Ln) (x : Ln) (e : TypeId) (h : x.t ∈ tts l) : ∃ i, (tksT l e (tts l))[i]? = some ((i64s (amtsT l x.t)).length, e, 1) ∧
    mget .nilsl (kvT m0 l (tts l) 0) (tD x.t) = .gsl (i64s (amtsT l x.t)) (m0 + i) ∧
    mset (kvT m0 l (tts l) 0) (tts l).length (tD x.t) (.gsl (i64s (amtsT l x.t) ++ i64s [x.amt]) (m0 + i)) = kvT m0 (l ++ [x]) (tts (l ++ [x])) 0 ∧
    mclk (kvT m0 l (tts l) 0) (tts l).length (tD x.t) = (tts (l ++ [x])).length ∧
    (tksT l e (tts l)).set i ((i64s (amtsT l x.t) ++ i64s [x.amt]).length, e, 1) = tksT (l ++ [x]) e (tts (l ++ [x])) := by
  obtain ⟨i, h1, h2⟩ := mfind_some' m0 l x.t (tts l) 0 h
  rw [Nat.zero_add] at h2
  refine ⟨i, by rw [tksT, List.getElem?_map, h1, i64s_len]; rfl, by rw [mget, h2], ?_, by rw [mclk, h2, tts_snoc, if_pos h], ?_⟩
  · rw [mset, h2, tts_snoc, if_pos h]
    have := mrepl_kvT m0 l x (tts l) 0 i (nd_tts l) h1
    rwa [Nat.zero_add] at this
  · rw [tts_snoc, if_pos h, ← tksT_set (nd_tts l) h1, List.length_append, i64s_len, i64s_len]; rfl
theorem tidy_new (m0 : Nat) (l : List Ln) (x : Ln) (e : TypeId) (h : x.t ∉ tts l) :
    mget .nilsl (kvT m0 l (tts l) 0) (tD x.t) = .nilsl ∧
    mset (kvT m0 l (tts l) 0) (tts l).length (tD x.t) (.gsl (i64s [x.amt]) (m0 + (tksT l e (tts l)).length)) = kvT m0 (l ++ [x]) (tts (l ++ [x])) 0 ∧
    mclk (kvT m0 l (tts l) 0) (tts l).length (tD x.t) = (tts (l ++ [x])).length ∧
    tksT l e (tts l) ++ [((i64s [x.amt]).length, e, 1)] = tksT (l ++ [x]) e (tts (l ++ [x])) := by
  have h2 := mfind_none' m0 l x.t (tts l) 0 h
  have h3 : amtsT (l ++ [x]) x.t = [x.amt] := by rw [amtsT_snoc, if_pos rfl, amtsT_none (fun hm => h ((mem_tts l _).2 hm))]; rfl
  refine ⟨by rw [mget, h2], ?_, by rw [mclk, h2, tts_snoc, if_neg h]; simp, ?_⟩
  · rw [mset, h2, tts_snoc, if_neg h, kvT_app, kvT_other _ _ h, h3, Nat.zero_add, tksT, List.length_map]
  · rw [tts_snoc, if_neg h]
    have : tksT (l ++ [x]) e (tts l ++ [x.t]) = tksT (l ++ [x]) e (tts l) ++ tksT (l ++ [x]) e [x.t] := by simp [tksT]
    rw [this, tksT_other h]
    simp [tksT, h3, i64s]
theorem mem_kvT (m0 : Nat) (l : List Ln) (p : D × D × Nat) : ∀ (ts : List Ti) (n : Nat), p ∈ kvT m0 l ts n ↔ ∃ i t, ts[i]? = some t ∧ p = (tD t, .gsl (i64s (amtsT l t)) (m0 + (n + i)), n + i)
  | [], n => by simp [kvT]
  | s :: r, n => by
    rw [kvT, List.mem_cons, mem_kvT m0 l p r (n + 1)]
    constructor
    · rintro (rfl | ⟨i, t, h1, rfl⟩)
      · exact ⟨0, s, rfl, rfl⟩
      · exact ⟨i + 1, t, by simpa using h1, by rw [show n + (i + 1) = n + 1 + i from by omega]⟩
    · rintro ⟨i, t, h1, rfl⟩
      cases i with
      | zero =>
        simp only [List.getElem?_cons_zero, Option.some.injEq] at h1
        subst h1; exact .inl rfl
      | succ i => exact .inr ⟨i, t, by simpa using h1, by rw [show n + (i + 1) = n + 1 + i from by omega]⟩
theorem kvT_in {m0 : Nat} {l : List Ln} {p : D × D × Nat} {ts : List Ti} (h : p ∈ kvT m0 l ts 0) : ∃ i t, ts[i]? = some t ∧ p = (tD t, .gsl (i64s (amtsT l t)) (m0 + i), i) := by
  obtain ⟨i, t, h1, rfl⟩ := (mem_kvT m0 l p ts 0).1 h
  exact ⟨i, t, h1, by rw [Nat.zero_add]⟩
theorem kvT_eq {m0 : Nat} {l : List Ln} {ts : List Ti} {i : Nat} {t : Ti} (h : ts[i]? = some t) : (tD t, .gsl (i64s (amtsT l t)) (m0 + i), i) ∈ kvT m0 l ts 0 ∧ ∀ q ∈ kvT m0 l ts 0, q.2.2 = i → q = (tD t, .gsl (i64s (amtsT l t)) (m0 + i), i) := by
  refine ⟨(mem_kvT m0 l _ ts 0).2 ⟨i, t, h, by rw [Nat.zero_add]⟩, fun q hq he => ?_⟩
  obtain ⟨j, s, h1, rfl⟩ := kvT_in hq
  simp only at he
  subst he
  rw [h, Option.some.injEq] at h1
  rw [h1]
/-- as many places as there are, each once, are all -/
theorem full_range {vs : List Nat} {n : Nat} (hn : vs.Nodup) (hb : ∀ i ∈ vs, i < n) : vs.length ≤ n := by
  have := List.Nodup.length_le_of_subset hn (l₂ := List.range n) (fun i hi => List.mem_range.2 (hb i hi))
  rwa [List.length_range] at this
end Go.KL.Ytogpeefldehnkaa

/- journal.Tidy -/
set_option linter.unusedVariables false
set_option linter.unusedSimpArgs false
set_option linter.unusedSectionVars false
set_option maxRecDepth 4000
namespace Go.KL.Ytogpeefldehnkaa
open Go Go.KL Go.RowKit Go.Proofs

theorem c11 : cFun E0.P 11 = some ⟨76, [(2, none), (3, none)], .seq (.rg [⟨some 2, none, .mv (.k .nilsl)⟩, ⟨some 3, none, .mv (.k (.int .i64 0))⟩]) (.seq (.rg [⟨some 13, none, .mkmap (KT.agg [KLf.i .i64, KLf.i .u64, KLf.i .u64])⟩, ⟨some 4, none, .mv (.t 13)⟩]) (.seq (.seq (.rg [⟨some 14, none, .mv (.t 0)⟩, ⟨some 15, none, .len 1 (.t 14)⟩, ⟨some 16, none, .mv (.k (.int .i64 0))⟩]) (.block 0 (.loop (.seq (.rg [⟨some 17, none, .bin .lss .leaf (.t 16) (.t 15)⟩]) (.seq (.cond (.t 17) .skip (.exit 0)) (.seq (.block 1 (.seq (.rg [⟨some 18, none, .ia 4 (.t 14) (.t 16)⟩, ⟨some 19, none, .ld 4 true (.t 18)⟩, ⟨some 6, none, .alloc [.int .i64 0, .int .u64 0, .int .u64 0, .int .i64 0] 34⟩, ⟨none, none, .st 4 (.t 6) (.t 19)⟩]) (.seq (.seq (.rg [⟨some 20, none, .ld 4 true (.t 6)⟩, ⟨some 21, none, .call 42 [.t 20]⟩, ⟨some 22, none, .un .not (.t 21)⟩]) (.cond (.t 22) (.seq (.rg [⟨some 2, none, .mv (.k .nilsl)⟩, ⟨some 3, none, .mv (.k (.int .i64 2))⟩]) .ret) .skip)) (.rd [(⟨some 23, none, .mv (.t 4)⟩, none), (⟨some 24, none, .ld 4 true (.t 6)⟩, none), (⟨some 25, none, .call 43 [.t 24]⟩, none), (⟨some 26, none, .mv (.t 4)⟩, none), (⟨some 27, none, .ld 4 true (.t 6)⟩, none), (⟨some 28, none, .call 43 [.t 27]⟩, none), (⟨some 29, none, .mget (KT.agg [KLf.i .i64, KLf.i .u64, KLf.i .u64]) .nilsl false (.t 26) (.t 28)⟩, none), (⟨some 30, none, .fa 3 (.t 6)⟩, none), (⟨some 31, none, .ld 1 false (.t 30)⟩, none), (⟨some 32, none, .buildS 1 1 [.int .i64 0] [(0, .t 31)] 2⟩, none), (⟨some 33, none, .app 99 2 1 8 [.int .i64 0] (.t 29) (.t 32)⟩, some []), (⟨none, none, .mset (KT.agg [KLf.i .i64, KLf.i .u64, KLf.i .u64]) (.t 23) (.t 25) (.t 33)⟩, some [])])))) (.rg [⟨some 34, none, .bin .add .leaf (.t 16) (.k (.int .i64 1))⟩, ⟨some 16, none, .mv (.t 34)⟩]))))))) (.seq (.rg [⟨some 7, none, .mv (.k .nilsl)⟩]) (.seq (.seq (.rg [⟨some 35, none, .mv (.t 4)⟩, ⟨some 36, none, .rngM (.t 35)⟩]) (.block 2 (.loop (.seq (.rg [⟨some 37, none, .nxt (.t 36)⟩, ⟨some 38, none, .ext 0 (.t 37)⟩]) (.seq (.cond (.t 38) .skip (.exit 2)) (.block 3 (.seq (.rg [⟨some 39, none, .ent (.t 36)⟩, ⟨some 40, none, .ext 0 (.t 39)⟩, ⟨some 41, none, .ext 1 (.t 39)⟩, ⟨some 8, none, .alloc [.int .i64 0, .int .u64 0, .int .u64 0] 101⟩, ⟨none, none, .st 3 (.t 8) (.t 40)⟩, ⟨some 9, none, .mv (.t 41)⟩]) (.seq (.rg [⟨some 43, none, .mv (.t 9)⟩, ⟨some 44, none, .call 44 [.t 43]⟩, ⟨some 42, none, .mv (.t 44)⟩, ⟨some 45, none, .ext 0 (.t 42)⟩, ⟨some 46, none, .ext 1 (.t 42)⟩, ⟨some 10, none, .mv (.t 45)⟩, ⟨some 11, none, .mv (.t 46)⟩]) (.seq (.rg [⟨some 47, none, .fa 0 (.t 8)⟩, ⟨some 48, none, .ld 1 false (.t 47)⟩, ⟨some 49, none, .fa 1 (.t 8)⟩, ⟨some 50, none, .ld 1 false (.t 49)⟩, ⟨some 51, none, .fa 2 (.t 8)⟩, ⟨some 52, none, .ld 1 false (.t 51)⟩, ⟨some 53, none, .mv (.t 10)⟩, ⟨some 54, none, .build [.int .i64 0, .int .u64 0, .int .u64 0, .int .i64 0] [(0, 1, .t 48), (1, 1, .t 50), (2, 1, .t 52), (3, 1, .t 53)]⟩, ⟨some 12, none, .alloc [.int .i64 0, .int .u64 0, .int .u64 0, .int .i64 0] 34⟩, ⟨none, none, .st 4 (.t 12) (.t 54)⟩]) (.block 4 (.seq (.rg [⟨some 60, none, .mv (.t 11)⟩, ⟨some 61, none, .mv (.t 60)⟩, ⟨some 62, some (61, true), .mv (.t 10)⟩, ⟨some 63, some (61, true), .bin .eql .leaf (.t 62) (.k (.int .i64 0))⟩, ⟨some 64, none, .pick (.t 61) (.t 63) (.k (.bool false))⟩, ⟨some 59, none, .mv (.t 64)⟩]) (.cond (.t 59) .skip (.seq (.rg [⟨some 66, none, .mv (.t 11)⟩, ⟨some 67, none, .un .not (.t 66)⟩, ⟨some 68, none, .mv (.t 67)⟩, ⟨some 69, some (68, false), .ld 4 true (.t 12)⟩, ⟨some 70, some (68, false), .call 42 [.t 69]⟩, ⟨some 71, some (68, false), .un .not (.t 70)⟩, ⟨some 72, none, .pick (.t 68) (.k (.bool true)) (.t 71)⟩, ⟨some 65, none, .mv (.t 72)⟩]) (.cond (.t 65) (.seq (.rg [⟨some 2, none, .mv (.k .nilsl)⟩, ⟨some 3, none, .mv (.k (.int .i64 2))⟩]) .ret) (.rg [⟨some 55, none, .mv (.t 7)⟩, ⟨some 56, none, .ld 4 true (.t 12)⟩, ⟨some 57, none, .buildS 1 4 [.int .i64 0, .int .u64 0, .int .u64 0, .int .i64 0] [(0, .t 56)] 34⟩, ⟨some 58, none, .app 22 34 4 32 [.int .i64 0, .int .u64 0, .int .u64 0, .int .i64 0] (.t 55) (.t 57)⟩, ⟨some 7, none, .mv (.t 58)⟩]))))))))))))))) (.seq (.rg [⟨some 73, none, .mv (.t 7)⟩, ⟨some 74, none, .call 45 [.t 73, .k (.fn 46 [])]⟩]) (.seq (.rg [⟨some 75, none, .mv (.t 7)⟩, ⟨some 2, none, .mv (.t 75)⟩, ⟨some 3, none, .mv (.k (.int .i64 0))⟩]) .ret))))))⟩ := by kernel_rfl

theorem ffinVP {E : Env} {n0 m0 : Nat} {S J : List O} {T TK : Tks} {d d' : D} {k sz : Nat} {es : List (List D)} {e : TypeId} {Post : D → List O → Tks → Prop} (hn : S.length = n0) (hm : T.length = m0) (hS : OSc n0 m0 S) (hJ : J[k]? = some (.vec es e sz)) (hf : VFrz (n0 + k) es d d') (hsc : d'.sc n0 m0 = true) (hp : Post d' S T) : FFin E n0 m0 S J T TK d Post := by
  refine ⟨d', _, _, ?_, hp⟩
  have h1 := Shift.vfreeze (E := E) (n0 := n0) (m0 := m0) (fr := [(0, d)]) (fr' := [(0, d')]) (S := S ++ J) (tk := T ++ TK) (at_own hn hJ) (t := 0) (d' := d') hf ⟨by simp [KL.get]; exact Sub.refl _, trivial⟩
  rw [set_own hn] at h1
  refine h1.trans ?_
  exact Shift.drop ⟨by simp [KL.get]; exact Sub.refl _, trivial⟩ (Nat.le_of_eq hn.symm) (Nat.le_of_eq hm.symm) (by rw [hn, hm]; simp [frSc, hsc]) (by rw [hn, hm]; exact hS)
theorem vfrzP {id sz : Nat} {es : List (List D)} {x : D} : VFrz id es (.tup [.vec id es.length sz, x]) (.tup [.sl es, x]) := by
  refine .tup rfl fun j d d' h1 h2 => ?_
  match j with
  | 0 => simp at h1 h2; subst h1; subst h2; exact .vec sz
  | 1 => simp at h1 h2; subst h1; subst h2; exact .refl _
  | j + 2 => simp at h1

theorem scL_i64s (n m : Nat) : ∀ l : List Int, scLL n m (i64s l) = true
  | [] => rfl
  | x :: l => by
    have h := scL_i64s n m l
    unfold i64s at h ⊢
    simp only [List.map_cons, scLL, h, Bool.and_true]; rfl
theorem sc_kvT {n m m0 clk : Nat} {l : List Ln} : ∀ (ts : List Ti) (k : Nat), m0 + (k + ts.length) ≤ m → oSc n m (.map kTi (kvT m0 l ts k) clk) = true
  | [], k, h => rfl
  | s :: r, k, h => by
    rw [List.length_cons] at h
    have ih := sc_kvT (n := n) (m := m) (m0 := m0) (clk := clk) (l := l) r (k + 1) (by omega)
    have h1 : m0 + k < m := by omega
    simp only [oSc] at ih ⊢
    simp only [kvT, List.all_cons, ih, Bool.and_true, tD, D.sc, scL, scL_i64s, h1, decide_true]
structure TyS where
  vs : List Nat
  out : Array CL.Lm
def lineT (l : List Ln) (t : Ti) : Ln := ⟨t.1, t.2.1, t.2.2, sumT l t⟩
/-- what is made of the titles that were met -/
def madeT (l : List Ln) (vs : List Nat) : List Ln := (vs.map fun i => lineT l ((tts l)[i]!)).filter fun x => decide (x.amt ≠ 0)
structure TyS.P (l : List Ln) (s : TyS) : Prop where
  nd : s.vs.Nodup
  lt : ∀ i ∈ s.vs, i < (tts l).length
  ok : ∀ i ∈ s.vs, ¬ big (sumT l ((tts l)[i]!))
  out : s.out.toList.map CL.Lm.n = madeT l s.vs
theorem madeT_snoc (l : List Ln) (vs : List Nat) (i : Nat) : madeT l (vs ++ [i]) = madeT l vs ++ if sumT l ((tts l)[i]!) ≠ 0 then [lineT l ((tts l)[i]!)] else [] := by
  rw [madeT, List.map_append, List.filter_append, ← madeT]
  rw [List.map_cons, List.map_nil]
  generalize (tts l)[i]! = t
  by_cases h : sumT l t ≠ 0
  · rw [if_pos h, List.filter_cons, if_pos (decide_eq_true (show (lineT l t).amt ≠ 0 from h))]; rfl
  · rw [if_neg h, List.filter_cons, if_neg (by rw [decide_eq_false (show ¬ (lineT l t).amt ≠ 0 from h)]; simp)]; rfl
theorem TyS.P.more {l : List Ln} {s : TyS} (h : s.P l) {i : Nat} (hi : i < (tts l).length) (hn : i ∉ s.vs) (hb : ¬ big (sumT l ((tts l)[i]!))) {o : Array CL.Lm} (ho : o.toList.map CL.Lm.n = madeT l (s.vs ++ [i])) : TyS.P l ⟨s.vs ++ [i], o⟩ ∧ s.vs.length < (tts l).length := by
  have hnd : (s.vs ++ [i]).Nodup := List.nodup_append.2 ⟨h.nd, by simp, fun a ha b hb hab => hn (by rw [List.mem_singleton.1 hb] at hab; exact hab ▸ ha)⟩
  have hlt : ∀ j ∈ s.vs ++ [i], j < (tts l).length := fun j hj => by
    rcases List.mem_append.1 hj with hj | hj
    · exact h.lt j hj
    · rw [List.mem_singleton.1 hj]; exact hi
  have := full_range hnd hlt
  rw [List.length_append, List.length_singleton] at this
  refine ⟨⟨hnd, hlt, fun j hj => ?_, ho⟩, by omega⟩
  rcases List.mem_append.1 hj with hj | hj
  · exact h.ok j hj
  · rw [List.mem_singleton.1 hj]; exact hb
theorem nd_of_map' {α β : Type} {f : α → β} : ∀ {l : List α}, (∀ a ∈ l, ∀ b ∈ l, f a = f b → a = b) → l.Nodup → (l.map f).Nodup
  | [], _, _ => List.nodup_nil
  | a :: l, hf, hn => by
    rw [List.nodup_cons] at hn
    rw [List.map_cons, List.nodup_cons]
    refine ⟨fun hm => ?_, nd_of_map' (fun x hx y hy => hf x (List.mem_cons_of_mem _ hx) y (List.mem_cons_of_mem _ hy)) hn.2⟩
    obtain ⟨b, hb, hab⟩ := List.mem_map.1 hm
    exact hn.1 (hf b (List.mem_cons_of_mem _ hb) a (List.mem_cons_self ..) hab ▸ hb)
theorem madeT_nd {l : List Ln} {vs : List Nat} (hn : vs.Nodup) (hlt : ∀ i ∈ vs, i < (tts l).length) : ((madeT l vs).map Ln.t).Nodup := by
  have h1 : ((vs.map fun i => lineT l ((tts l)[i]!)).map Ln.t) = vs.map fun i => (tts l)[i]! := by rw [List.map_map]; rfl
  have h2 : (vs.map fun i => (tts l)[i]!).Nodup := nd_of_map' (fun a ha b hb hab => by
    have ha' := hlt a ha
    have hb' := hlt b hb
    simp only [getElem!_pos (tts l) a ha', getElem!_pos (tts l) b hb'] at hab
    exact (List.getElem_inj (nd_tts l)).1 hab) hn
  rw [← h1] at h2
  exact h2.sublist ((List.filter_sublist ..).map _)
/-- what the whole map makes, in order -/
theorem tid_of {l : List Ln} {vs : List Nat} {out : List Ln} (hall : ∀ i, i < (tts l).length → i ∈ vs) (hlt : ∀ i ∈ vs, i < (tts l).length) (hm : ∀ x, x ∈ out ↔ x ∈ madeT l vs) (hs : out.Pairwise Ln.lt) : Tid l out := by
  refine ⟨hs, fun x => (hm x).trans ?_⟩
  simp only [madeT, List.mem_filter, List.mem_map, decide_eq_true_eq]
  constructor
  · rintro ⟨⟨i, hi, rfl⟩, h0⟩
    have hi' := hlt i hi
    refine ⟨h0, rfl, ?_⟩
    rw [← List.mem_map (f := Ln.t), ← mem_tts, getElem!_pos (tts l) i hi']
    exact List.getElem_mem hi'
  · rintro ⟨h1, h2, y, hy, hyt⟩
    have : x.t ∈ tts l := (mem_tts l _).2 (hyt ▸ List.mem_map_of_mem hy)
    obtain ⟨i, hi, he⟩ := List.mem_iff_getElem.1 this
    refine ⟨⟨i, hall i hi, ?_⟩, h1⟩
    rw [getElem!_pos (tts l) i hi, he]
    cases x
    simp only [lineT, Ln.t] at *
    rw [h2]
theorem bad_not {l : List Ln} (hm : ∀ x ∈ l, x.may) (hb : ∀ i, i < (tts l).length → ¬ big (sumT l ((tts l)[i]!))) : ¬ BadL l := by
  rintro ⟨x, hx, h | h⟩
  · exact h (hm x hx)
  · obtain ⟨i, hi, he⟩ := List.mem_iff_getElem.1 ((mem_tts l x.t).2 (List.mem_map_of_mem hx))
    have := hb i hi
    rw [getElem!_pos (tts l) i hi, he] at this
    exact this h
set_option maxHeartbeats 4000000 in
theorem Tidy (l : List Ln) (hl : l.length < 1099511627776) (hR : ∀ x ∈ l, x.R) (S : List O) (tk : Tks) :
    ACalls E0 11 [.sl (lns l)] S tk (fun r S' tk' => ((BadL l ∧ r = .tup [.nilsl, .int .i64 2]) ∨ (¬ BadL l ∧ ∃ out, Tid l out ∧ r = .tup [.sl (lns out), .int .i64 0])) ∧ S' = S ∧ tk' = tk) := by
  refine ACalls.fgo c11 rfl fun hS => ?_
  repeat' first | with_reducible refine fzD_ite (fun q => ?_) (fun q => ?_) | ((try conv => whnf); first
    | refine bs_d (fun q => ?_) (fun q => ?_)
    | refine bs_n ?_
    | refine bs_i (fun q => ?_) (fun q => ?_)
    | refine eqk rfl ?_
    | refine ffin _ rfl rfl hS (Sub.refl _) rfl ⟨?_, rfl, rfl⟩)
  refine floopS (α := Nat) rfl (fun i => i ≤ l.length ∧ ∀ x ∈ l.take i, x.may) (fun i => l.length - i) (fun i => [(16, .d (.int .i64 i)), (14, .d (.sl (lns l))), (15, .d (.int .i64 (lns l).length)), (4, .d (.map S.length))])
    (fun _ => S) (fun i => [.map kTi (kvT tk.length (l.take i) (tts (l.take i)) 0) (tts (l.take i)).length]) (fun i => tksT (l.take i) 2 (tts (l.take i))) (fun _ _ => ⟨rfl, hS⟩) 0 ⟨Nat.zero_le _, by simp⟩ rfl (fstep_sub ⟨Sub.refl _, Sub.refl _, Sub.refl _, Sub.refl _, trivial⟩) ?_
  have hfr : ∀ i m : Nat, frSc (S.length + 1) m (frD S.length [(16, .d (.int .i64 i)), (14, .d (.sl (lns l))), (15, .d (.int .i64 (lns l).length)), (4, .d (.map S.length))]) = true := fun i m => by
    simp [frD, FD.to, frSc, D.sc, scLL_lns]
  rintro i ⟨hi, hm⟩
  refine bs_d (fun (h : (i : Int) < ((lns l).length : Int)) => ?_) (fun (h : ¬ (i : Int) < ((lns l).length : Int)) => ?_)
  · rw [lns_len] at h
    have hi2 : i < l.length := by omega
    have hxi : l[i]? = some l[i] := List.getElem?_eq_getElem hi2
    have hxR := hR l[i] (List.getElem_mem hi2)
    have htk : l.take (i + 1) = l.take i ++ [l[i]] := by rw [List.take_add_one, hxi]; rfl
    have hxm := may l[i]
    have hxl : l[i] ∈ l := List.getElem_mem hi2
    have hle : (amtsT (l.take i) l[i].t).length ≤ i := by have := amtsT_len (l.take i) l[i].t; rw [List.length_take] at this; omega
    generalize l[i] = x at hxi hxR htk hxm hxl hle
    by_cases hy : x.may
    · rw [decide_eq_true hy] at hxm
      have hm' : ∀ y ∈ l.take (i + 1), y.may := by
        intro y hyl
        rw [htk, List.mem_append, List.mem_singleton] at hyl
        rcases hyl with hyl | rfl
        · exact hm y hyl
        · exact hy
      by_cases ht : x.t ∈ tts (l.take i)
      · obtain ⟨k, k1, k2, k3, k4, k5⟩ := tidy_old tk.length (l.take i) x 2 ht
        repeat' first | with_reducible refine fzD_ite (fun q => ?_) (fun q => ?_) | ((try conv => whnf); first
          | refine bs_d (fun q => ?_) (fun q => ?_)
          | refine bs_n ?_
          | refine bs_i (fun q => ?_) (fun q => ?_)
          | refine ck (by first | rfl | simp) rfl (hxm) ?_
          | refine cq (hxm) ?_
          | refine ck (by first | rfl | simp) rfl (titleOf x) ?_
          | refine cq (titleOf x) ?_
          | refine pK_i (iaD_lns (x := x) (by omega) (by simpa using hxi)) ?_
          | refine pK_i ((mgD_own (j := 0) rfl rfl rfl).trans (congrArg some k2)) ?_
          | refine gk_app (t := k) (src := i64s [x.amt]) rfl rfl rfl rfl k1 (by simp [i64s]) (by simp [maxLen, i64s_len]; omega) ?_
          | refine gk_mset_own (j := 0) rfl rfl (by rfl) (by rfl) (by rfl) ?_
          | refine eqk rfl ?_
          | refine ffin _ rfl rfl hS (Sub.refl _) rfl ⟨?_, rfl, rfl⟩)
        conv => whnf
        refine fnextS (α := Nat) (i + 1) ⟨hi2, hm'⟩ (by omega) rfl ?_
        show FStep _ _ _ _ _ _ _ [.map kTi (kvT tk.length (l.take (i + 1)) (tts (l.take (i + 1))) 0) (tts (l.take (i + 1))).length] (tksT (l.take (i + 1)) 2 (tts (l.take (i + 1))))
        rw [htk]
        exact fstep_drop (Jx := [_]) (TKx := []) (by rw [← k3, ← k4]; rfl) (by rw [← k5, List.append_nil]) ⟨Sub.int (by first | rfl | omega | (refine Int.sub_eq_zero.mp ?_; simp (disch := ((try unfold I64); omega)) only [wi64_id, td]; omega)), Sub.refl _, Sub.refl _, Sub.refl _, trivial⟩ (hfr _ _) (by simp only [oScL, Bool.and_true]; exact sc_kvT _ _ (by simp [tksT]))
      · obtain ⟨k2, k3, k4, k5⟩ := tidy_new tk.length (l.take i) x 2 ht
        repeat' first | with_reducible refine fzD_ite (fun q => ?_) (fun q => ?_) | ((try conv => whnf); first
          | refine bs_d (fun q => ?_) (fun q => ?_)
          | refine bs_n ?_
          | refine bs_i (fun q => ?_) (fun q => ?_)
          | refine ck (by first | rfl | simp) rfl (hxm) ?_
          | refine cq (hxm) ?_
          | refine ck (by first | rfl | simp) rfl (titleOf x) ?_
          | refine cq (titleOf x) ?_
          | refine pK_i (iaD_lns (x := x) (by omega) (by simpa using hxi)) ?_
          | refine pK_i ((mgD_own (j := 0) rfl rfl rfl).trans (congrArg some k2)) ?_
          | refine gk_app0 (src := i64s [x.amt]) rfl rfl (.inl rfl) rfl (by simp [i64s]) (by simp [maxLen, i64s_len]) ?_
          | refine gk_mset_own (j := 0) rfl rfl (by rfl) (by rfl) (by rfl) ?_
          | refine eqk rfl ?_
          | refine ffin _ rfl rfl hS (Sub.refl _) rfl ⟨?_, rfl, rfl⟩)
        conv => whnf
        refine fnextS (α := Nat) (i + 1) ⟨hi2, hm'⟩ (by omega) rfl ?_
        show FStep _ _ _ _ _ _ _ [.map kTi (kvT tk.length (l.take (i + 1)) (tts (l.take (i + 1))) 0) (tts (l.take (i + 1))).length] (tksT (l.take (i + 1)) 2 (tts (l.take (i + 1))))
        rw [htk]
        exact fstep_drop (Jx := [_]) (TKx := []) (by rw [← k3, ← k4]; rfl) (by rw [← k5, List.append_nil]) ⟨Sub.int (by first | rfl | omega | (refine Int.sub_eq_zero.mp ?_; simp (disch := ((try unfold I64); omega)) only [wi64_id, td]; omega)), Sub.refl _, Sub.refl _, Sub.refl _, trivial⟩ (hfr _ _) (by simp only [oScL, Bool.and_true]; exact sc_kvT _ _ (by simp [tksT]))
    · rw [decide_eq_false hy] at hxm
      repeat' first | with_reducible refine fzD_ite (fun q => ?_) (fun q => ?_) | ((try conv => whnf); first
        | refine bs_d (fun q => ?_) (fun q => ?_)
        | refine bs_n ?_
        | refine bs_i (fun q => ?_) (fun q => ?_)
        | refine ck (by first | rfl | simp) rfl (hxm) ?_
        | refine cq (hxm) ?_
        | refine pK_i (iaD_lns (x := x) (by omega) (by simpa using hxi)) ?_
        | refine eqk rfl ?_
        | refine ffin _ rfl rfl hS (Sub.refl _) rfl ⟨?_, rfl, rfl⟩)
      exact .inl ⟨⟨x, hxl, .inl hy⟩, rfl⟩
  · rw [lns_len] at h
    obtain rfl : i = l.length := by omega
    rw [List.take_length] at hm ⊢
    repeat' first | with_reducible refine fzD_ite (fun q => ?_) (fun q => ?_) | ((try conv => whnf); first
      | refine bs_d (fun q => ?_) (fun q => ?_)
      | refine bs_n ?_
      | refine bs_i (fun q => ?_) (fun q => ?_)
      | refine gk_rng_own (j := 0) rfl rfl (by rfl) (by rfl) ?_
      | refine eqk rfl ?_
      | refine ffin _ rfl rfl hS (Sub.refl _) rfl ⟨?_, rfl, rfl⟩)
    obtain ⟨ts, hts⟩ : ∃ ts, ts = tts l := ⟨_, rfl⟩
    rw [← hts]
    obtain ⟨kv, hkv⟩ : ∃ kv, kv = kvT tk.length l ts 0 := ⟨_, rfl⟩
    rw [← hkv]
    have hkin : ∀ p ∈ kv, ∃ i t, ts[i]? = some t ∧ p = (tD t, .gsl (i64s (amtsT l t)) (tk.length + i), i) := fun p hp => kvT_in (hkv ▸ hp)
    have hkv0 : kv = [] ∨ ∃ p ∈ kv, p.2.2 < ts.length := by
      cases hc : ts with
      | nil => left; rw [hkv, hc]; rfl
      | cons t r => right; refine ⟨_, hkv ▸ (kvT_eq (i := 0) (t := t) (by rw [hc]; rfl)).1, by simp⟩
    refine floopS (α := TyS) rfl (fun s => s.P l) (fun s => ts.length - s.vs.length) (fun s => [(36, .d (.po (S.length + 1) 0)), (7, .d (.vec (S.length + 2) s.out.size 4))])
      (fun _ => S) (fun s => [.map kTi kv ts.length, .iter (S.length + 0) ts.length s.vs ts.length, CL.VI s.out]) (fun _ => tksT l 2 ts) (fun _ _ => ⟨rfl, hS⟩) ⟨[], #[]⟩ ⟨List.nodup_nil, by simp, by simp, rfl⟩ rfl (fstep_vec 34 4 (t := 7) (.inl rfl) ⟨Sub.refl _, Sub.refl _, trivial⟩) ?_
    have hfr2 : ∀ (n m : Nat), frSc (S.length + 3) m (frD S.length [(36, .d (.po (S.length + 1) 0)), (7, .d (.vec (S.length + 2) n 4))]) = true := fun n m => by
      simp [frD, FD.to, frSc, D.sc]
    have hoc2 : ∀ (vs : List Nat) (o : Array CL.Lm), oScL (S.length + 3) (tk.length + (tksT l 2 ts).length) [.map kTi kv ts.length, .iter (S.length + 0) ts.length vs ts.length, CL.VI o] = true := fun vs o => by
      have h1 := sc_kvT (n := S.length + 3) (m := tk.length + (tksT l 2 ts).length) (m0 := tk.length) (clk := ts.length) (l := l) ts 0 (by simp [tksT])
      rw [← hkv] at h1
      have h2 : oSc (S.length + 3) (tk.length + (tksT l 2 ts).length) (CL.VI o) = true := scLL_rows CL.eE _ _ _
      show (oSc _ _ (.map kTi kv ts.length) && (decide (S.length + 0 < S.length + 3) && (oSc _ _ (CL.VI o) && true))) = true
      rw [h1, h2]
      simp
    rintro s hs
    repeat' first | with_reducible refine fzD_ite (fun q => ?_) (fun q => ?_) | ((try conv => whnf); first
      | refine bs_d (fun q => ?_) (fun q => ?_)
      | refine bs_n ?_
      | refine bs_i (fun q => ?_) (fun q => ?_)
      | (refine gk_nxt (it := 1) rfl rfl (by rfl) (by rfl) (at_own rfl (by rfl)) (.inr hkv0) ?_ ?_; (rintro p hp hns; obtain ⟨k, t, hkt, rfl⟩ := hkin p hp; skip); rotate_left; intro hall; rotate_left)
      | refine eqk rfl ?_
      | refine ffin _ rfl rfl hS (Sub.refl _) rfl ⟨?_, rfl, rfl⟩)
    · have hk : k < ts.length := (List.getElem?_eq_some_iff.1 hkt).1
      have hkt' : ts[k]! = t := by rw [getElem!_pos ts k hk]; exact (List.getElem?_eq_some_iff.1 hkt).2
      have hkd : ∀ q ∈ kv, q.2.2 = k → q = (tD t, .gsl (i64s (amtsT l t)) (tk.length + k), k) := fun q hq hqk => (kvT_eq hkt).2 q (hkv ▸ hq) hqk
      have hns' : k ∉ s.vs := hns
      obtain ⟨x, hx, hxt⟩ : ∃ x ∈ l, x.t = t := by
        have : t ∈ tts l := by rw [← hts]; exact List.mem_of_getElem? hkt
        simpa using (mem_tts l t).1 this
      have hxm := hm x hx
      have hacc : 1 ≤ t.1 ∧ t.1 ≤ 9999 := by rw [← hxt]; exact ⟨hxm.1, hxm.2.1⟩
      have hsum := Sum (amtsT l t) (by have := amtsT_len l t; omega) (amtsT_R hR t)
      have hsn := madeT_snoc l s.vs k
      rw [← hts, hkt'] at hsn
      have hmore := fun hb o ho => hs.more (i := k) (by rw [← hts]; exact hk) hns' hb (o := o) ho
      rw [← hts, hkt'] at hmore
      have hlen : s.out.size ≤ l.length := by
        have h1 := congrArg List.length hs.out
        have h2 : (madeT l s.vs).length ≤ s.vs.length := by rw [madeT]; refine Nat.le_trans (List.length_filter_le ..) ?_; simp
        have h3 := full_range hs.nd hs.lt
        have h4 := tts_len l
        rw [List.length_map, Array.length_toList] at h1
        omega
      by_cases hfit : -9223372036854775808 ≤ (amtsT l t).sum ∧ (amtsT l t).sum < 9223372036854775808
      · rw [sumS, if_pos hfit] at hsum
        by_cases h0 : (amtsT l t).sum = 0
        · skip
          repeat' first | with_reducible refine fzD_ite (fun q => ?_) (fun q => ?_) | ((try conv => whnf); first
            | refine bs_t (decide_eq_true h0) ?_
            | refine bs_d (fun q => ?_) (fun q => ?_)
            | refine bs_n ?_
            | refine bs_i (fun q => ?_) (fun q => ?_)
            | refine ckS (by first | rfl | simp) rfl hsum (.cons (Sub.rd rfl) .nil) ?_
            | refine pK_i (entD_own (k := 1) rfl (by rfl) (at_own rfl (by rfl)) hp hkd) ?_
            | refine eqk rfl ?_
            | refine ffin _ rfl rfl hS (Sub.refl _) rfl ⟨?_, rfl, rfl⟩)
          conv => whnf
          have hm1 := hmore (by unfold big sumT; omega) s.out (by rw [hsn, hs.out, if_neg (by unfold sumT; simpa using h0), List.append_nil])
          refine fnextS (α := TyS) ⟨s.vs ++ [k], s.out⟩ hm1.1 (by simp only [List.length_append, List.length_singleton]; omega) rfl (fstep_drop (J' := [.map kTi kv ts.length, .iter (S.length + 0) ts.length (s.vs ++ [k]) ts.length, CL.VI s.out]) (Jx := [_, _]) (TK' := tksT l 2 ts) (TKx := []) rfl (List.append_nil _).symm ⟨Sub.refl _, Sub.refl _, trivial⟩ (hfr2 _ _) (hoc2 _ _))
        · have hmy := may (lineT l t)
          by_cases hb : (lineT l t).may
          · rw [decide_eq_true hb] at hmy
            repeat' first | with_reducible refine fzD_ite (fun q => ?_) (fun q => ?_) | ((try conv => whnf); first
              | refine bs_f (decide_eq_false h0) ?_
              | refine bs_d (fun q => ?_) (fun q => ?_)
              | refine bs_n ?_
              | refine bs_i (fun q => ?_) (fun q => ?_)
              | refine ckS (by first | rfl | simp) rfl hsum (.cons (Sub.rd rfl) .nil) ?_
              | refine pK_i (entD_own (k := 1) rfl (by rfl) (at_own rfl (by rfl)) hp hkd) ?_
              | refine ck (by first | rfl | simp) rfl (hmy) ?_
              | refine cq (hmy) ?_
              | refine gk_appv (k := 2) (es := rowsV CL.eD s.out.toList) (src := [(lineT l t).cs]) rfl rfl (by rfl) (by rfl) (by rw [rowsV_len, Array.length_toList]) (by rfl) (by simp [Ln.cs]) (by rw [rowsV_len, Array.length_toList]; simp [maxLen]; omega) ?_
              | refine eqk rfl ?_
              | refine ffin _ rfl rfl hS (Sub.refl _) rfl ⟨?_, rfl, rfl⟩)
            conv => whnf
            have hrow : rowsV CL.eD s.out.toList ++ [(lineT l t).cs] = rowsV CL.eD (s.out.push ⟨t.1, t.2.1, t.2.2, sumT l t, by omega⟩).toList := by
              simp [rowsV, CL.eD, D.cs, lineT, Ln.cs]
            have hm1 := hmore (by have := hb.2.2.2; unfold big; simp only [lineT] at this; omega) (s.out.push ⟨t.1, t.2.1, t.2.2, sumT l t, by omega⟩) (by rw [hsn, if_pos (by unfold sumT; simpa using h0), Array.toList_push, List.map_append, hs.out]; rfl)
            rw [hrow]
            refine fnextS (α := TyS) ⟨s.vs ++ [k], _⟩ hm1.1 (by simp only [List.length_append, List.length_singleton]; omega) rfl (fstep_drop (J' := [.map kTi kv ts.length, .iter (S.length + 0) ts.length (s.vs ++ [k]) ts.length, CL.VI _]) (Jx := [_, _]) (TK' := tksT l 2 ts) (TKx := []) rfl (List.append_nil _).symm ⟨Sub.refl _, Sub.of (congrArg (fun n => D.vec (S.length + 2) n 4) (by rw [rowsV_len, Array.length_toList])), trivial⟩ (hfr2 _ _) (hoc2 _ _))
          · rw [decide_eq_false hb] at hmy
            repeat' first | with_reducible refine fzD_ite (fun q => ?_) (fun q => ?_) | ((try conv => whnf); first
              | refine bs_f (decide_eq_false h0) ?_
              | refine bs_d (fun q => ?_) (fun q => ?_)
              | refine bs_n ?_
              | refine bs_i (fun q => ?_) (fun q => ?_)
              | refine ckS (by first | rfl | simp) rfl hsum (.cons (Sub.rd rfl) .nil) ?_
              | refine pK_i (entD_own (k := 1) rfl (by rfl) (at_own rfl (by rfl)) hp hkd) ?_
              | refine ck (by first | rfl | simp) rfl (hmy) ?_
              | refine cq (hmy) ?_
              | refine eqk rfl ?_
              | refine ffin _ rfl rfl hS (Sub.refl _) rfl ⟨?_, rfl, rfl⟩)
            refine .inl ⟨⟨x, hx, .inr ?_⟩, rfl⟩
            rw [hxt]
            unfold big
            simp only [Ln.may, lineT, sumT] at hb ⊢
            omega
      · rw [sumS, if_neg hfit] at hsum
        repeat' first | with_reducible refine fzD_ite (fun q => ?_) (fun q => ?_) | ((try conv => whnf); first
          | refine bs_d (fun q => ?_) (fun q => ?_)
          | refine bs_n ?_
          | refine bs_i (fun q => ?_) (fun q => ?_)
          | refine ckS (by first | rfl | simp) rfl hsum (.cons (Sub.rd rfl) .nil) ?_
          | refine pK_i (entD_own (k := 1) rfl (by rfl) (at_own rfl (by rfl)) hp hkd) ?_
          | refine eqk rfl ?_
          | refine ffin _ rfl rfl hS (Sub.refl _) rfl ⟨?_, rfl, rfl⟩)
        exact .inl ⟨⟨x, hx, .inr (by unfold big; rw [hxt]; unfold sumT; omega)⟩, rfl⟩
    · have hall2 : ∀ i, i < ts.length → i ∈ s.vs := fun i hi => by
        have := kvT_eq (m0 := tk.length) (l := l) (ts := ts) (i := i) (t := ts[i]) (List.getElem?_eq_getElem hi)
        exact hall _ (hkv ▸ this.1) hi
      have hlt2 := hs.lt
      rw [hts] at hall2
      have hlen : s.out.size ≤ l.length := by
        have h1 := congrArg List.length hs.out
        have h2 : (madeT l s.vs).length ≤ s.vs.length := by rw [madeT]; refine Nat.le_trans (List.length_filter_le ..) ?_; simp
        have h3 := full_range hs.nd hs.lt
        have h4 := tts_len l
        rw [List.length_map, Array.length_toList] at h1
        omega
      have hnd := madeT_nd hs.nd hs.lt
      rw [← hs.out, List.map_map] at hnd
      have hsrt := CL.sortV (S.length + 2) s.out.size (aheadQ _ _) swo_ahead s.out rfl (by omega)
      repeat' first | with_reducible refine fzD_ite (fun q => ?_) (fun q => ?_) | ((try conv => whnf); first
        | refine bs_d (fun q => ?_) (fun q => ?_)
        | refine bs_n ?_
        | refine bs_i (fun q => ?_) (fun q => ?_)
        | (refine ckVEJ (k := 2) rfl rfl (by rfl) (fun S0 tk h => hsrt S0 tk h trivial) (SubL.refl _) ?_; rintro r d' ⟨rfl, hq⟩; skip)
        | refine eqk rfl ?_
        | refine ffin _ rfl rfl hS (Sub.refl _) rfl ⟨?_, rfl, rfl⟩)
      have e : s.out.size = (rowsV CL.eD d'.toList).length := by rw [rowsV_len, Array.length_toList, hq.1.1]
      have e2 : rowsV CL.eD d'.toList = lns (d'.toList.map CL.Lm.n) := by simp only [rowsV, lns, List.map_map]; rfl
      obtain ⟨hp1, hp2⟩ := sorts_lt hq hnd
      conv => whnf
      show FFin _ _ _ _ _ _ _ (.tup [.vec (S.length + 2) s.out.size 4, .int .i64 0]) _
      rw [e]
      refine ffinVP (k := 2) rfl rfl hS (by rfl) vfrzP ?_ ⟨.inr ⟨?_, d'.toList.map CL.Lm.n, ?_, by rw [e2]⟩, rfl, rfl⟩
      · rw [e2]; simp [D.sc, scL, scLL_lns]
      · exact bad_not hm fun i hi => hs.ok i (hall2 i hi)
      · refine tid_of hall2 hs.lt (fun x => ?_) hp2
        rw [← hs.out]
        exact (hp1.map _).mem_iff
end Go.KL.Ytogpeefldehnkaa

/- a cut between whose parts older tokens change -/
set_option linter.unusedVariables false
namespace Go.KL
open Go Go.RowKit
structure FCNextT (E : Env) (n0 m0 : Nat) {α : Type} (P : α → Prop) (gf : α → Fr) (gS gJ : α → List O) (gO gT : α → Tks) (fr : Fr) (S J : List O) (T TK : Tks) : Prop where
  h : ∃ a, P a ∧ S = gS a ∧ T = gO a ∧ FStep E n0 m0 fr J TK (gf a) (gJ a) (gT a)
theorem fcnextT {E : Env} {n0 m0 : Nat} {α : Type} {P : α → Prop} {gf : α → Fr} {gS gJ : α → List O} {gO gT : α → Tks} {S : List O} {T : Tks} {fr : Fr} {J : List O} {TK : Tks} (a : α) (h1 : P a) (hS : S = gS a) (hT : T = gO a) (h3 : FStep E n0 m0 fr J TK (gf a) (gJ a) (gT a)) :
    FCNextT E n0 m0 P gf gS gJ gO gT fr S J T TK := ⟨a, h1, hS, hT, h3⟩
def FCdT (E : Env) (n0 m0 : Nat) {α : Type} (P : α → Prop) (gf : α → Fr) (gS gJ : α → List O) (gO gT : α → Tks) (Q : X → FK) : X → FK := fun x fr S J T TK => match x with
  | .nm => FCNextT E n0 m0 P gf gS gJ gO gT fr S J T TK
  | .ex id => Q (.ex id) fr S J T TK
  | .rt => Q .rt fr S J T TK
theorem fcutT {E : Env} {n0 m0 : Nat} {A B : Fr → List O → List O → Tks → Tks → (X → FK) → Prop} {fr : Fr} {S J : List O} {T TK : Tks} {Q : X → FK} {α : Type}
    (P : α → Prop) (gf : α → Fr) (gS gJ : α → List O) (gO gT : α → Tks) (hgS : ∀ a, P a → (gS a).length = n0 ∧ (gO a).length = m0 ∧ OSc n0 m0 (gS a))
    (hA : A fr S J T TK (FCdT E n0 m0 P gf gS gJ gO gT Q)) (hB : ∀ a, P a → B (gf a) (gS a) (gJ a) (gO a) (gT a) Q) : FCut E n0 m0 A B fr S J T TK Q := by
  refine ⟨fun fr S' J T' TK => ∃ a, P a ∧ fr = gf a ∧ S' = gS a ∧ J = gJ a ∧ T' = gO a ∧ TK = gT a, _, hA, ?_, fun id fr S J T TK h => h, fun fr S J T TK h => h, ?_⟩
  · intro fr S J T TK h
    obtain ⟨a, h1, rfl, rfl, h3⟩ := h.h
    exact ⟨gf a, gS a, gJ a, _, gT a, h3.h _ _ (hgS a h1).1 (hgS a h1).2.1 (hgS a h1).2.2, a, h1, rfl, rfl, rfl, rfl, rfl⟩
  · rintro fr S' J T' TK ⟨a, h1, rfl, rfl, rfl, rfl, rfl⟩
    exact ⟨⟨(hgS a h1).1, (hgS a h1).2.1⟩, hB a h1⟩
end Go.KL

/- journal.Check, Put: of any entry -/
set_option linter.unusedVariables false
set_option linter.unusedSimpArgs false
set_option linter.unusedSectionVars false
set_option maxRecDepth 4000
namespace Go.KL.Ytogpeefldehnkaa.J
open Go Go.KL Go.RowKit Go.Proofs Go.KL.Ytogpeefldehnkaa

theorem c54 : cFun E0.P 54 = some ⟨29, [(4, none), (5, none)], .seq (.rg [⟨some 4, none, .mv (.k (.int .i64 0))⟩, ⟨some 5, none, .mv (.k (.bool false))⟩]) (.seq (.rg [⟨some 6, none, .mv (.k .nilsl)⟩]) (.seq (.seq (.rg [⟨some 9, none, .mv (.t 0)⟩, ⟨some 10, none, .len 1 (.t 9)⟩, ⟨some 11, none, .mv (.k (.int .i64 0))⟩]) (.block 0 (.loop (.seq (.rg [⟨some 12, none, .bin .lss .leaf (.t 11) (.t 10)⟩]) (.seq (.cond (.t 12) .skip (.exit 0)) (.seq (.block 1 (.seq (.rg [⟨some 13, none, .ia 4 (.t 9) (.t 11)⟩, ⟨some 14, none, .ld 4 true (.t 13)⟩, ⟨some 8, none, .alloc [.int .i64 0, .int .u64 0, .int .u64 0, .int .i64 0] 34⟩, ⟨none, none, .st 4 (.t 8) (.t 14)⟩]) (.seq (.rg [⟨some 15, none, .mv (.t 1)⟩, ⟨some 16, none, .fa 3 (.t 8)⟩, ⟨some 17, none, .ld 1 false (.t 16)⟩, ⟨some 18, none, .callv (.t 15) [.t 17]⟩]) (.cond (.t 18) (.rg [⟨some 19, none, .mv (.t 6)⟩, ⟨some 20, none, .fa 3 (.t 8)⟩, ⟨some 21, none, .ld 1 false (.t 20)⟩, ⟨some 22, none, .buildS 1 1 [.int .i64 0] [(0, .t 21)] 2⟩, ⟨some 23, none, .app 99 2 1 8 [.int .i64 0] (.t 19) (.t 22)⟩, ⟨some 6, none, .mv (.t 23)⟩]) .skip)))) (.rg [⟨some 24, none, .bin .add .leaf (.t 11) (.k (.int .i64 1))⟩, ⟨some 11, none, .mv (.t 24)⟩]))))))) (.seq (.rg [⟨some 25, none, .mv (.t 6)⟩, ⟨some 26, none, .call 44 [.t 25]⟩, ⟨some 27, none, .ext 0 (.t 26)⟩, ⟨some 28, none, .ext 1 (.t 26)⟩, ⟨some 4, none, .mv (.t 27)⟩, ⟨some 5, none, .mv (.t 28)⟩]) .ret)))⟩ := by kernel_rfl
theorem c55 : cFun E0.P 55 = some ⟨3, [(2, none)], .seq (.rg [⟨some 2, none, .mv (.k (.bool false))⟩]) (.seq (.rg [⟨some 2, none, .mv (.k (.bool true))⟩]) .ret)⟩ := by kernel_rfl
theorem c17 : cFun E0.P 17 = some ⟨55, [(2, none)], .seq (.rg [⟨some 1, none, .box (.t 0) 39⟩, ⟨some 2, none, .mv (.k (.int .i64 0))⟩]) (.seq (.seq (.rg [⟨some 7, none, .fa 0 (.t 1)⟩, ⟨some 8, none, .ld 1 false (.t 7)⟩, ⟨some 9, none, .bin .lss .leaf (.t 8) (.k (.int .i64 1))⟩, ⟨some 10, none, .mv (.t 9)⟩, ⟨some 11, some (10, false), .fa 0 (.t 1)⟩, ⟨some 12, some (10, false), .ld 1 false (.t 11)⟩, ⟨some 13, some (10, false), .bin .gtr .leaf (.t 12) (.k (.int .i64 3652059))⟩, ⟨some 14, none, .pick (.t 10) (.k (.bool true)) (.t 13)⟩, ⟨some 15, none, .mv (.t 14)⟩, ⟨some 16, some (15, false), .fa 1 (.t 1)⟩, ⟨some 17, some (15, false), .ld 1 false (.t 16)⟩, ⟨some 18, some (15, false), .bin .eql .leaf (.t 17) (.k (.int .u8 0))⟩, ⟨some 19, none, .pick (.t 15) (.k (.bool true)) (.t 18)⟩, ⟨some 20, none, .mv (.t 19)⟩, ⟨some 21, some (20, false), .fa 3 (.t 1)⟩, ⟨some 22, some (20, false), .ld 1 false (.t 21)⟩, ⟨some 23, some (20, false), .len 1 (.t 22)⟩, ⟨some 24, some (20, false), .bin .lss .leaf (.t 23) (.k (.int .i64 2))⟩, ⟨some 25, none, .pick (.t 20) (.k (.bool true)) (.t 24)⟩, ⟨some 26, none, .mv (.t 25)⟩, ⟨some 27, some (26, false), .fa 3 (.t 1)⟩, ⟨some 28, some (26, false), .ld 1 false (.t 27)⟩, ⟨some 29, some (26, false), .len 1 (.t 28)⟩, ⟨some 30, some (26, false), .bin .gtr .leaf (.t 29) (.k (.int .i64 64))⟩, ⟨some 31, none, .pick (.t 26) (.k (.bool true)) (.t 30)⟩]) (.cond (.t 31) (.seq (.rg [⟨some 2, none, .mv (.k (.int .i64 2))⟩]) .ret) .skip)) (.seq (.seq (.rg [⟨some 32, none, .fa 3 (.t 1)⟩, ⟨some 33, none, .ld 1 false (.t 32)⟩, ⟨some 34, none, .len 1 (.t 33)⟩, ⟨some 35, none, .mv (.k (.int .i64 0))⟩]) (.block 0 (.loop (.seq (.rg [⟨some 36, none, .bin .lss .leaf (.t 35) (.t 34)⟩]) (.seq (.cond (.t 36) .skip (.exit 0)) (.seq (.block 1 (.seq (.rg [⟨some 37, none, .ia 4 (.t 33) (.t 35)⟩, ⟨some 38, none, .ld 4 true (.t 37)⟩, ⟨some 4, none, .alloc [.int .i64 0, .int .u64 0, .int .u64 0, .int .i64 0] 34⟩, ⟨none, none, .st 4 (.t 4) (.t 38)⟩]) (.seq (.rg [⟨some 39, none, .ld 4 true (.t 4)⟩, ⟨some 40, none, .call 42 [.t 39]⟩, ⟨some 41, none, .un .not (.t 40)⟩]) (.cond (.t 41) (.seq (.rg [⟨some 2, none, .mv (.k (.int .i64 2))⟩]) .ret) .skip)))) (.rg [⟨some 42, none, .bin .add .leaf (.t 35) (.k (.int .i64 1))⟩, ⟨some 35, none, .mv (.t 42)⟩]))))))) (.seq (.seq (.rg [⟨some 44, none, .fa 3 (.t 1)⟩, ⟨some 45, none, .ld 1 false (.t 44)⟩, ⟨some 46, none, .call 54 [.t 45, .k (.fn 55 [])]⟩, ⟨some 43, none, .mv (.t 46)⟩, ⟨some 47, none, .ext 0 (.t 43)⟩, ⟨some 48, none, .ext 1 (.t 43)⟩, ⟨some 5, none, .mv (.t 47)⟩, ⟨some 6, none, .mv (.t 48)⟩]) (.seq (.rg [⟨some 49, none, .mv (.t 5)⟩, ⟨some 50, none, .bin .neq .leaf (.t 49) (.k (.int .i64 0))⟩, ⟨some 51, none, .mv (.t 50)⟩, ⟨some 52, some (51, false), .mv (.t 6)⟩, ⟨some 53, some (51, false), .un .not (.t 52)⟩, ⟨some 54, none, .pick (.t 51) (.k (.bool true)) (.t 53)⟩]) (.cond (.t 54) (.seq (.rg [⟨some 2, none, .mv (.k (.int .i64 200))⟩]) .ret) .skip))) (.seq (.rg [⟨some 2, none, .mv (.k (.int .i64 0))⟩]) .ret))))⟩ := by kernel_rfl
theorem c25 : cFun E0.P 25 = some ⟨59, [(2, none), (3, none)], .seq (.rg [⟨some 1, none, .box (.t 0) 39⟩, ⟨some 2, none, .mv (.k (.str ⟨#[]⟩))⟩, ⟨some 3, none, .mv (.k (.int .i64 0))⟩]) (.seq (.seq (.rg [⟨some 8, none, .ld 4 true (.t 1)⟩, ⟨some 9, none, .call 17 [.t 8]⟩, ⟨some 4, none, .mv (.t 9)⟩]) (.seq (.rg [⟨some 10, none, .mv (.t 4)⟩, ⟨some 11, none, .bin .neq .leaf (.t 10) (.k (.int .i64 0))⟩]) (.cond (.t 11) (.seq (.rg [⟨some 12, none, .mv (.t 4)⟩, ⟨some 2, none, .mv (.k (.str ⟨#[]⟩))⟩, ⟨some 3, none, .mv (.t 12)⟩]) .ret) .skip))) (.seq (.rd [(⟨some 13, none, .fa 0 (.t 1)⟩, none), (⟨some 14, none, .ld 1 false (.t 13)⟩, none), (⟨some 15, none, .conv .u64 (.t 14)⟩, none), (⟨some 16, none, .call 61 [.t 15]⟩, none), (⟨some 17, none, .fa 1 (.t 1)⟩, none), (⟨some 18, none, .ld 1 false (.t 17)⟩, none), (⟨some 19, none, .conv .u64 (.t 18)⟩, none), (⟨some 20, none, .call 61 [.t 19]⟩, none), (⟨some 21, none, .bin .add .leaf (.t 16) (.t 20)⟩, none), (⟨some 22, none, .fa 2 (.t 1)⟩, none), (⟨some 23, none, .ld 1 false (.t 22)⟩, none), (⟨some 24, none, .call 61 [.t 23]⟩, none), (⟨some 25, none, .bin .add .leaf (.t 21) (.t 24)⟩, none), (⟨some 26, none, .fa 3 (.t 1)⟩, none), (⟨some 27, none, .ld 1 false (.t 26)⟩, none), (⟨some 28, none, .len 1 (.t 27)⟩, none), (⟨some 29, none, .conv .u64 (.t 28)⟩, none), (⟨some 30, none, .call 61 [.t 29]⟩, some []), (⟨some 31, none, .bin .add .leaf (.t 25) (.t 30)⟩, none), (⟨some 5, none, .mv (.t 31)⟩, none)]) (.seq (.seq (.rg [⟨some 32, none, .fa 3 (.t 1)⟩, ⟨some 33, none, .ld 1 false (.t 32)⟩, ⟨some 34, none, .len 1 (.t 33)⟩, ⟨some 35, none, .mv (.k (.int .i64 0))⟩]) (.block 0 (.loop (.seq (.rg [⟨some 36, none, .bin .lss .leaf (.t 35) (.t 34)⟩]) (.seq (.cond (.t 36) .skip (.exit 0)) (.seq (.block 1 (.seq (.rg [⟨some 37, none, .ia 4 (.t 33) (.t 35)⟩, ⟨some 38, none, .ld 4 true (.t 37)⟩, ⟨some 7, none, .alloc [.int .i64 0, .int .u64 0, .int .u64 0, .int .i64 0] 34⟩, ⟨none, none, .st 4 (.t 7) (.t 38)⟩]) (.rd [(⟨some 39, none, .mv (.t 5)⟩, none), (⟨some 40, none, .fa 0 (.t 7)⟩, none), (⟨some 41, none, .ld 1 false (.t 40)⟩, none), (⟨some 42, none, .conv .u64 (.t 41)⟩, none), (⟨some 43, none, .call 61 [.t 42]⟩, none), (⟨some 44, none, .fa 1 (.t 7)⟩, none), (⟨some 45, none, .ld 1 false (.t 44)⟩, none), (⟨some 46, none, .call 61 [.t 45]⟩, none), (⟨some 47, none, .bin .add .leaf (.t 43) (.t 46)⟩, none), (⟨some 48, none, .fa 2 (.t 7)⟩, none), (⟨some 49, none, .ld 1 false (.t 48)⟩, none), (⟨some 50, none, .call 61 [.t 49]⟩, none), (⟨some 51, none, .bin .add .leaf (.t 47) (.t 50)⟩, none), (⟨some 52, none, .fa 3 (.t 7)⟩, none), (⟨some 53, none, .ld 1 false (.t 52)⟩, none), (⟨some 54, none, .call 62 [.t 53]⟩, some []), (⟨some 55, none, .bin .add .leaf (.t 51) (.t 54)⟩, none), (⟨some 56, none, .bin .add .leaf (.t 39) (.t 55)⟩, none), (⟨some 5, none, .mv (.t 56)⟩, none)]))) (.rg [⟨some 57, none, .bin .add .leaf (.t 35) (.k (.int .i64 1))⟩, ⟨some 35, none, .mv (.t 57)⟩]))))))) (.seq (.rg [⟨some 58, none, .mv (.t 5)⟩, ⟨some 2, none, .mv (.t 58)⟩, ⟨some 3, none, .mv (.k (.int .i64 0))⟩]) .ret))))⟩ := by kernel_rfl

theorem take_snA {α : Type} [Inhabited α] {l : List α} {i : Nat} (h : i < l.length) : l.take (i + 1) = l.take i ++ [l[i]!] := by
  rw [List.take_add_one, List.getElem?_eq_getElem h, getElem!_pos l i h]; rfl
theorem mem_at {α : Type} [Inhabited α] {l : List α} {i : Nat} (h : i < l.length) : l[i]! ∈ l := by rw [getElem!_pos l i h]; exact List.getElem_mem h
theorem iaD_ln {l : List Ln} {i : Nat} {n : Int} (h : n = i) (hi : i < l.length) : iaD 4 (.sl (lns l)) (.int .i64 n) = some (.pe (l[i]!).cs 0) := by
  subst h
  exact iaD_map (f := Ln.cs) (by omega) (by rw [Int.toNat_natCast, List.getElem?_eq_getElem hi, getElem!_pos l i hi]) rfl
/-- an entry -/
structure Ent where
  day : Int
  kind : Int
  src : Int
  L : List Ln
def Ent.d (e : Ent) : D := .agg [.int .i64 e.day, .int .u8 e.kind, .int .u64 e.src, .sl (lns e.L)]
structure Ent.R (e : Ent) : Prop where
  day : I64 e.day
  kind : 0 ≤ e.kind ∧ e.kind < 256
  src : U64 e.src
  L : ∀ x ∈ e.L, x.R
def Ent.hd (e : Ent) : Prop := 1 ≤ e.day ∧ e.day ≤ 3652059 ∧ e.kind ≠ 0 ∧ 2 ≤ e.L.length ∧ e.L.length ≤ 64
instance (e : Ent) : Decidable e.hd := by unfold Ent.hd; infer_instance
/-- what is said of an entry -/
def Ent.chk (e : Ent) : Int := if e.hd ∧ ∀ x ∈ e.L, x.may then (if (e.L.map Ln.amt).sum = 0 then 0 else 200) else 2
theorem chk1 (n : Int) : Pure 55 [.int .i64 n] (.bool true) := by
  intro S tk
  refine ACalls.fgo c55 rfl fun hS => ?_
  repeat' first | with_reducible refine fzD_ite (fun q => ?_) (fun q => ?_) | ((try conv => whnf); first
    | refine bs_d (fun q => ?_) (fun q => ?_)
    | refine bs_n ?_
    | refine bs_i (fun q => ?_) (fun q => ?_)
    | refine eqk rfl ?_
    | refine ffin _ rfl rfl hS (Sub.refl _) rfl ⟨?_, rfl, rfl⟩)
  all_goals rfl
theorem jsum (L : List Ln) (hl : L.length < 1000000) (hR : ∀ x ∈ L, x.R) : Pure 54 [.sl (lns L), .fn 55 []] (sumS (L.map Ln.amt)) := by
  intro S tk
  have hlen := lns_len L
  have hsum := Sum (L.map Ln.amt) (by simp; omega) (fun n hn => by obtain ⟨x, hx, rfl⟩ := List.mem_map.1 hn; exact (hR x hx).amt)
  refine ACalls.fgo c54 rfl fun hS => ?_
  repeat' first | with_reducible refine fzD_ite (fun q => ?_) (fun q => ?_) | ((try conv => whnf); first
    | refine bs_d (fun q => ?_) (fun q => ?_)
    | refine bs_n ?_
    | refine bs_i (fun q => ?_) (fun q => ?_)
    | refine eqk rfl ?_
    | refine ffin _ rfl rfl hS (Sub.refl _) rfl ⟨?_, rfl, rfl⟩)
  refine floop (α := Nat) rfl rfl hS (fun i => i ≤ L.length) (fun i => L.length - i) (fun i => [(11, .d (.int .i64 i)), (10, .d (.int .i64 L.length)), (9, .d (.sl (lns L))), (1, .d (.fn 55 [])), (6, .d (.gsl (i64s ((L.take i).map Ln.amt)) (tk.length + 0)))]) (fun _ => []) (fun i => [((i64s ((L.take i).map Ln.amt)).length, 2, 1)]) 0 (Nat.zero_le _) (fstep_tok 2 1 (t := 6) (.inl rfl) ⟨Sub.refl _, Sub.int (by rw [hlen]), Sub.refl _, Sub.refl _, Sub.refl _, trivial⟩) ?_
  intro i hi
  by_cases hlt : i < L.length
  · have hgl : i64s ((L.take i).map Ln.amt) ++ [[.int .i64 L[i]!.amt]] = i64s ((L.take (i + 1)).map Ln.amt) := by rw [take_snA hlt]; simp [i64s]
    repeat' first | with_reducible refine fzD_ite (fun q => ?_) (fun q => ?_) | ((try conv => whnf); first
      | refine bs_t (decide_eq_true (by omega)) ?_
      | refine bs_t (rfl : callOK E0.P 55 = true) ?_
      | refine bs_d (fun q => ?_) (fun q => ?_)
      | refine bs_n ?_
      | refine bs_i (fun q => ?_) (fun q => ?_)
      | refine pK_i (iaD_ln (i := i) rfl hlt) ?_
      | refine ck (by first | rfl | simp) rfl (chk1 _) ?_
      | refine cq (chk1 _) ?_
      | (refine gk_app (t := 0) (src := [[.int .i64 L[i]!.amt]]) rfl rfl (by rfl) (by rfl) (by rfl) (by simp) (by rw [i64s_len, List.length_map, List.length_take]; simp [maxLen]; omega) ?_; rw [hgl])
      | refine eqk rfl ?_
      | refine ffin _ rfl rfl hS (Sub.refl _) rfl ⟨?_, rfl, rfl⟩)
    conv => whnf
    exact fnext (α := Nat) (i + 1) (by omega) (by omega) (fstep_drop (J' := []) (Jx := [_]) (TK' := [_]) (TKx := []) rfl rfl ⟨Sub.int (by first | rfl | omega | (refine Int.sub_eq_zero.mp ?_; simp (disch := ((try unfold I64); omega)) only [wi64_id, td]; omega)), Sub.refl _, Sub.refl _, Sub.refl _, Sub.refl _, trivial⟩ (by simp [frD, FD.to, frSc, D.sc, scLL_lns, scL, scL_i64s]) rfl)
  · obtain rfl : i = L.length := by omega
    rw [List.take_length]
    by_cases hf : -9223372036854775808 ≤ (L.map Ln.amt).sum ∧ (L.map Ln.amt).sum < 9223372036854775808
    · rw [sumS, if_pos hf] at hsum ⊢
      repeat' first | with_reducible refine fzD_ite (fun q => ?_) (fun q => ?_) | ((try conv => whnf); first
        | refine bs_f (decide_eq_false (by omega)) ?_
        | refine bs_d (fun q => ?_) (fun q => ?_)
        | refine bs_n ?_
        | refine bs_i (fun q => ?_) (fun q => ?_)
        | refine ckS (by first | rfl | simp) rfl hsum (.cons (Sub.rd rfl) .nil) ?_
        | refine eqk rfl ?_
        | refine ffin _ rfl rfl hS (Sub.refl _) rfl ⟨?_, rfl, rfl⟩)
      all_goals rfl
    · rw [sumS, if_neg hf] at hsum ⊢
      repeat' first | with_reducible refine fzD_ite (fun q => ?_) (fun q => ?_) | ((try conv => whnf); first
        | refine bs_f (decide_eq_false (by omega)) ?_
        | refine bs_d (fun q => ?_) (fun q => ?_)
        | refine bs_n ?_
        | refine bs_i (fun q => ?_) (fun q => ?_)
        | refine ckS (by first | rfl | simp) rfl hsum (.cons (Sub.rd rfl) .nil) ?_
        | refine eqk rfl ?_
        | refine ffin _ rfl rfl hS (Sub.refl _) rfl ⟨?_, rfl, rfl⟩)
      all_goals rfl
theorem Check (e : Ent) (hR : e.R) : Pure 17 [e.d] (.int .i64 e.chk) := by
  intro S tk
  have hlen := lns_len e.L
  by_cases hh : e.hd
  rotate_left
  · rw [Ent.chk, if_neg (fun h => hh h.1)]
    unfold Ent.hd at hh
    by_cases d1 : e.day < 1
    · refine ACalls.fgo c17 rfl fun hS => ?_
      repeat' first | with_reducible refine fzD_ite (fun q => ?_) (fun q => ?_) | ((try conv => whnf); first
        | refine bs_t (decide_eq_true d1) ?_
        | refine bs_d (fun q => ?_) (fun q => ?_)
        | refine bs_n ?_
        | refine bs_i (fun q => ?_) (fun q => ?_)
        | refine eqk rfl ?_
        | refine ffin _ rfl rfl hS (Sub.refl _) rfl ⟨?_, rfl, rfl⟩)
      all_goals rfl
    · refine ACalls.fgo c17 rfl fun hS => ?_
      repeat' first | with_reducible refine fzD_ite (fun q => ?_) (fun q => ?_) | ((try conv => whnf); first
        | refine bs_f (decide_eq_false d1) ?_
        | refine bs_d (fun q => ?_) (fun q => ?_)
        | refine bs_n ?_
        | refine bs_i (fun q => ?_) (fun q => ?_)
        | refine eqk rfl ?_
        | refine ffin _ rfl rfl hS (Sub.refl _) rfl ⟨?_, rfl, rfl⟩)
      all_goals first | rfl | (exfalso; omega)
  have hh' := hh
  unfold Ent.hd at hh'
  have hsm := jsum e.L (by omega) hR.L
  refine ACalls.fgo c17 rfl fun hS => ?_
  repeat' first | with_reducible refine fzD_ite (fun q => ?_) (fun q => ?_) | ((try conv => whnf); first
    | refine bs_f (decide_eq_false (by omega)) ?_
    | refine bs_d (fun q => ?_) (fun q => ?_)
    | refine bs_n ?_
    | refine bs_i (fun q => ?_) (fun q => ?_)
    | refine eqk rfl ?_
    | refine ffin _ rfl rfl hS (Sub.refl _) rfl ⟨?_, rfl, rfl⟩)
  conv => whnf
  refine floop (α := Nat) rfl rfl hS (fun i => i ≤ e.L.length ∧ ∀ x ∈ e.L.take i, x.may) (fun i => e.L.length - i) (fun i => [(35, .d (.int .i64 i)), (34, .d (.int .i64 e.L.length)), (33, .d (.sl (lns e.L))), (1, .lp 0 0)]) (fun _ => [.arr [.int .i64 e.day, .int .u8 e.kind, .int .u64 e.src, .sl (lns e.L)]]) (fun _ => []) 0 ⟨Nat.zero_le _, by simp⟩ (fstep_sub ⟨Sub.refl _, Sub.int (by rw [hlen]), Sub.refl _, Sub.refl _, trivial⟩) ?_
  rintro i ⟨hi, hm⟩
  by_cases hlt : i < e.L.length
  · have hmy := may e.L[i]!
    by_cases hy : e.L[i]!.may
    · rw [decide_eq_true hy] at hmy
      repeat' first | with_reducible refine fzD_ite (fun q => ?_) (fun q => ?_) | ((try conv => whnf); first
        | refine bs_t (decide_eq_true (by omega)) ?_
        | refine bs_d (fun q => ?_) (fun q => ?_)
        | refine bs_n ?_
        | refine bs_i (fun q => ?_) (fun q => ?_)
        | refine pK_i (iaD_ln (i := i) rfl hlt) ?_
        | refine ck (by first | rfl | simp) rfl (hmy) ?_
        | refine cq (hmy) ?_
        | refine eqk rfl ?_
        | refine ffin _ rfl rfl hS (Sub.refl _) rfl ⟨?_, rfl, rfl⟩)
      conv => whnf
      refine fnext (α := Nat) (i + 1) ⟨by omega, fun x hx => ?_⟩ (by omega) (fstep_drop (J' := [_]) (Jx := [_]) (TK' := []) (TKx := []) rfl rfl ⟨Sub.int (by first | rfl | omega | (refine Int.sub_eq_zero.mp ?_; simp (disch := ((try unfold I64); omega)) only [wi64_id, td]; omega)), Sub.refl _, Sub.refl _, Sub.refl _, trivial⟩ (by simp [frD, FD.to, frSc, D.sc, scLL_lns]) (by simp [oScL, oSc, scL, D.sc, scLL_lns]))
      rw [take_snA hlt, List.mem_append, List.mem_singleton] at hx
      rcases hx with hx | rfl
      · exact hm x hx
      · exact hy
    · rw [decide_eq_false hy] at hmy
      rw [Ent.chk, if_neg (fun h => hy (h.2 _ (mem_at hlt)))]
      repeat' first | with_reducible refine fzD_ite (fun q => ?_) (fun q => ?_) | ((try conv => whnf); first
        | refine bs_t (decide_eq_true (by omega)) ?_
        | refine bs_d (fun q => ?_) (fun q => ?_)
        | refine bs_n ?_
        | refine bs_i (fun q => ?_) (fun q => ?_)
        | refine pK_i (iaD_ln (i := i) rfl hlt) ?_
        | refine ck (by first | rfl | simp) rfl (hmy) ?_
        | refine cq (hmy) ?_
        | refine eqk rfl ?_
        | refine ffin _ rfl rfl hS (Sub.refl _) rfl ⟨?_, rfl, rfl⟩)
      all_goals rfl
  · rw [List.take_of_length_le (by omega)] at hm
    rw [Ent.chk, if_pos ⟨hh, hm⟩]
    by_cases hz : (e.L.map Ln.amt).sum = 0
    · rw [if_pos hz]
      rw [sumS, if_pos (by omega)] at hsm
      repeat' first | with_reducible refine fzD_ite (fun q => ?_) (fun q => ?_) | ((try conv => whnf); first
        | refine bs_f (decide_eq_false (by omega)) ?_
        | refine bs_t (decide_eq_true hz) ?_
        | refine bs_d (fun q => ?_) (fun q => ?_)
        | refine bs_n ?_
        | refine bs_i (fun q => ?_) (fun q => ?_)
        | refine ck (by first | rfl | simp) rfl (hsm) ?_
        | refine cq (hsm) ?_
        | refine eqk rfl ?_
        | refine ffin _ rfl rfl hS (Sub.refl _) rfl ⟨?_, rfl, rfl⟩)
      all_goals rfl
    · rw [if_neg hz]
      by_cases hf : -9223372036854775808 ≤ (e.L.map Ln.amt).sum ∧ (e.L.map Ln.amt).sum < 9223372036854775808
      · rw [sumS, if_pos hf] at hsm
        repeat' first | with_reducible refine fzD_ite (fun q => ?_) (fun q => ?_) | ((try conv => whnf); first
          | refine bs_f (decide_eq_false (by omega)) ?_
          | refine bs_f (decide_eq_false hz) ?_
          | refine bs_d (fun q => ?_) (fun q => ?_)
          | refine bs_n ?_
          | refine bs_i (fun q => ?_) (fun q => ?_)
          | refine ck (by first | rfl | simp) rfl (hsm) ?_
          | refine cq (hsm) ?_
          | refine eqk rfl ?_
          | refine ffin _ rfl rfl hS (Sub.refl _) rfl ⟨?_, rfl, rfl⟩)
        all_goals rfl
      · rw [sumS, if_neg hf] at hsm
        repeat' first | with_reducible refine fzD_ite (fun q => ?_) (fun q => ?_) | ((try conv => whnf); first
          | refine bs_f (decide_eq_false (by omega)) ?_
          | refine bs_d (fun q => ?_) (fun q => ?_)
          | refine bs_n ?_
          | refine bs_i (fun q => ?_) (fun q => ?_)
          | refine ck (by first | rfl | simp) rfl (hsm) ?_
          | refine cq (hsm) ?_
          | refine eqk rfl ?_
          | refine ffin _ rfl rfl hS (Sub.refl _) rfl ⟨?_, rfl, rfl⟩)
        all_goals rfl
end Go.KL.Ytogpeefldehnkaa.J

/- journal.Put, Totals: of any entry -/
set_option linter.unusedVariables false
set_option linter.unusedSimpArgs false
set_option linter.unusedSectionVars false
set_option maxRecDepth 4000
namespace Go.KL.Ytogpeefldehnkaa.J
open Go Go.KL Go.RowKit Go.Proofs Go.KL.Ytogpeefldehnkaa

theorem c23 : cFun E0.P 23 = some ⟨32, [(2, none), (3, none), (4, none)], .seq (.rg [⟨some 1, none, .box (.t 0) 39⟩, ⟨some 2, none, .mv (.k (.int .i64 0))⟩, ⟨some 3, none, .mv (.k (.int .i64 0))⟩, ⟨some 4, none, .mv (.k (.int .i64 0))⟩]) (.seq (.seq (.rg [⟨some 10, none, .ld 4 true (.t 1)⟩, ⟨some 11, none, .call 17 [.t 10]⟩, ⟨some 5, none, .mv (.t 11)⟩]) (.seq (.rg [⟨some 12, none, .mv (.t 5)⟩, ⟨some 13, none, .bin .neq .leaf (.t 12) (.k (.int .i64 0))⟩]) (.cond (.t 13) (.seq (.rg [⟨some 14, none, .mv (.t 5)⟩, ⟨some 2, none, .mv (.k (.int .i64 0))⟩, ⟨some 3, none, .mv (.k (.int .i64 0))⟩, ⟨some 4, none, .mv (.t 14)⟩]) .ret) .skip))) (.seq (.rg [⟨some 16, none, .fa 3 (.t 1)⟩, ⟨some 17, none, .ld 1 false (.t 16)⟩, ⟨some 18, none, .call 54 [.t 17, .k (.fn 59 [])]⟩, ⟨some 15, none, .mv (.t 18)⟩, ⟨some 19, none, .ext 0 (.t 15)⟩, ⟨some 20, none, .ext 1 (.t 15)⟩, ⟨some 6, none, .mv (.t 19)⟩, ⟨some 7, none, .mv (.t 20)⟩]) (.seq (.seq (.rg [⟨some 21, none, .mv (.t 7)⟩, ⟨some 22, none, .un .not (.t 21)⟩]) (.cond (.t 22) (.seq (.rg [⟨some 2, none, .mv (.k (.int .i64 0))⟩, ⟨some 3, none, .mv (.k (.int .i64 0))⟩, ⟨some 4, none, .mv (.k (.int .i64 2))⟩]) .ret) .skip)) (.seq (.rg [⟨some 24, none, .fa 3 (.t 1)⟩, ⟨some 25, none, .ld 1 false (.t 24)⟩, ⟨some 26, none, .call 54 [.t 25, .k (.fn 60 [])]⟩, ⟨some 23, none, .mv (.t 26)⟩, ⟨some 27, none, .ext 0 (.t 23)⟩, ⟨some 28, none, .ext 1 (.t 23)⟩, ⟨some 8, none, .mv (.t 27)⟩, ⟨some 9, none, .mv (.t 28)⟩]) (.seq (.rg [⟨some 29, none, .mv (.t 6)⟩, ⟨some 30, none, .mv (.t 8)⟩, ⟨some 31, none, .un .neg (.t 30)⟩, ⟨some 2, none, .mv (.t 29)⟩, ⟨some 3, none, .mv (.t 31)⟩, ⟨some 4, none, .mv (.k (.int .i64 0))⟩]) .ret)))))⟩ := by kernel_rfl
theorem c59 : cFun E0.P 59 = some ⟨5, [(2, none)], .seq (.rg [⟨some 2, none, .mv (.k (.bool false))⟩]) (.seq (.rg [⟨some 3, none, .mv (.t 0)⟩, ⟨some 4, none, .bin .gtr .leaf (.t 3) (.k (.int .i64 0))⟩, ⟨some 2, none, .mv (.t 4)⟩]) .ret)⟩ := by kernel_rfl
theorem c60 : cFun E0.P 60 = some ⟨5, [(2, none)], .seq (.rg [⟨some 2, none, .mv (.k (.bool false))⟩]) (.seq (.rg [⟨some 3, none, .mv (.t 0)⟩, ⟨some 4, none, .bin .lss .leaf (.t 3) (.k (.int .i64 0))⟩, ⟨some 2, none, .mv (.t 4)⟩]) .ret)⟩ := by kernel_rfl

theorem isum (fn : FuncId) (hok : callOK E0.P fn = true) (p : Int → Bool) (hp : ∀ n, Pure fn [.int .i64 n] (.bool (p n))) (L : List Ln) (hl : L.length < 1000000) (hR : ∀ x ∈ L, x.R) : Pure 54 [.sl (lns L), .fn fn []] (sumS ((L.map Ln.amt).filter p)) := by
  intro S tk
  have hlen := lns_len L
  have hfl : ∀ i, ((L.take i).map Ln.amt).length ≤ L.length := fun i => by rw [List.length_map, List.length_take]; omega
  have hff : ∀ i, (((L.take i).map Ln.amt).filter p).length ≤ L.length := fun i => Nat.le_trans (List.length_filter_le ..) (hfl i)
  have hsum := Sum ((L.map Ln.amt).filter p) (by have := hff L.length; rw [List.take_length] at this; omega) (fun n hn => by obtain ⟨x, hx, rfl⟩ := List.mem_map.1 (List.mem_filter.1 hn).1; exact (hR x hx).amt)
  refine ACalls.fgo c54 rfl fun hS => ?_
  repeat' first | with_reducible refine fzD_ite (fun q => ?_) (fun q => ?_) | ((try conv => whnf); first
    | refine bs_d (fun q => ?_) (fun q => ?_)
    | refine bs_n ?_
    | refine bs_i (fun q => ?_) (fun q => ?_)
    | refine eqk rfl ?_
    | refine ffin _ rfl rfl hS (Sub.refl _) rfl ⟨?_, rfl, rfl⟩)
  refine floop (α := Nat) rfl rfl hS (fun i => i ≤ L.length) (fun i => L.length - i) (fun i => [(11, .d (.int .i64 i)), (10, .d (.int .i64 L.length)), (9, .d (.sl (lns L))), (1, .d (.fn fn [])), (6, .d (.gsl (i64s (((L.take i).map Ln.amt).filter p)) (tk.length + 0)))]) (fun _ => []) (fun i => [((i64s (((L.take i).map Ln.amt).filter p)).length, 2, 1)]) 0 (Nat.zero_le _) (fstep_tok 2 1 (t := 6) (.inl rfl) ⟨Sub.refl _, Sub.int (by rw [hlen]), Sub.refl _, Sub.refl _, Sub.refl _, trivial⟩) ?_
  intro i hi
  by_cases hlt : i < L.length
  · have hst : ((L.take (i + 1)).map Ln.amt).filter p = ((L.take i).map Ln.amt).filter p ++ (if p L[i]!.amt = true then [L[i]!.amt] else []) := by
      rw [take_snA hlt, List.map_append, List.filter_append]
      by_cases h : p L[i]!.amt = true
      · rw [if_pos h]; simp only [List.map_cons, List.map_nil, List.filter_cons, h, if_true, List.filter_nil]
      · rw [if_neg h]; simp only [List.map_cons, List.map_nil, List.filter_cons, h, List.filter_nil]; rfl
    have hpc := hp L[i]!.amt
    by_cases hp1 : p L[i]!.amt = true
    · rw [hp1] at hpc
      rw [if_pos hp1] at hst
      have hgl : i64s (((L.take i).map Ln.amt).filter p) ++ [[.int .i64 L[i]!.amt]] = i64s (((L.take (i + 1)).map Ln.amt).filter p) := by rw [hst]; simp [i64s]
      repeat' first | with_reducible refine fzD_ite (fun q => ?_) (fun q => ?_) | ((try conv => whnf); first
        | refine bs_t (decide_eq_true (by omega)) ?_
        | refine bs_t hok ?_
        | refine bs_d (fun q => ?_) (fun q => ?_)
        | refine bs_n ?_
        | refine bs_i (fun q => ?_) (fun q => ?_)
        | refine pK_i (iaD_ln (i := i) rfl hlt) ?_
        | refine ck (by first | rfl | simp) rfl (hpc) ?_
        | refine cq (hpc) ?_
        | (refine gk_app (t := 0) (src := [[.int .i64 L[i]!.amt]]) rfl rfl (by rfl) (by rfl) (by rfl) (by simp) (by have hz := hff i; rw [i64s_len]; generalize (((L.take i).map Ln.amt).filter p).length = z at hz ⊢; simp [maxLen]; omega) ?_; rw [hgl])
        | refine eqk rfl ?_
        | refine ffin _ rfl rfl hS (Sub.refl _) rfl ⟨?_, rfl, rfl⟩)
      conv => whnf
      exact fnext (α := Nat) (i + 1) (by omega) (by omega) (fstep_drop (J' := []) (Jx := [_]) (TK' := [_]) (TKx := []) rfl rfl ⟨Sub.int (by first | rfl | omega | (refine Int.sub_eq_zero.mp ?_; simp (disch := ((try unfold I64); omega)) only [wi64_id, td]; omega)), Sub.refl _, Sub.refl _, Sub.refl _, Sub.refl _, trivial⟩ (by simp [frD, FD.to, frSc, D.sc, scLL_lns, scL, scL_i64s]) rfl)
    · rw [Bool.not_eq_true] at hp1
      rw [hp1] at hpc
      rw [if_neg (by rw [hp1]; simp), List.append_nil] at hst
      repeat' first | with_reducible refine fzD_ite (fun q => ?_) (fun q => ?_) | ((try conv => whnf); first
        | refine bs_t (decide_eq_true (by omega)) ?_
        | refine bs_t hok ?_
        | refine bs_d (fun q => ?_) (fun q => ?_)
        | refine bs_n ?_
        | refine bs_i (fun q => ?_) (fun q => ?_)
        | refine pK_i (iaD_ln (i := i) rfl hlt) ?_
        | refine ck (by first | rfl | simp) rfl (hpc) ?_
        | refine cq (hpc) ?_
        | refine eqk rfl ?_
        | refine ffin _ rfl rfl hS (Sub.refl _) rfl ⟨?_, rfl, rfl⟩)
      conv => whnf
      rw [← hst]
      exact fnext (α := Nat) (i + 1) (by omega) (by omega) (fstep_drop (J' := []) (Jx := [_]) (TK' := [_]) (TKx := []) rfl rfl ⟨Sub.int (by first | rfl | omega | (refine Int.sub_eq_zero.mp ?_; simp (disch := ((try unfold I64); omega)) only [wi64_id, td]; omega)), Sub.refl _, Sub.refl _, Sub.refl _, Sub.refl _, trivial⟩ (by simp [frD, FD.to, frSc, D.sc, scLL_lns, scL, scL_i64s]) rfl)
  · obtain rfl : i = L.length := by omega
    rw [List.take_length]
    by_cases hf : -9223372036854775808 ≤ ((L.map Ln.amt).filter p).sum ∧ ((L.map Ln.amt).filter p).sum < 9223372036854775808
    · rw [sumS, if_pos hf] at hsum ⊢
      repeat' first | with_reducible refine fzD_ite (fun q => ?_) (fun q => ?_) | ((try conv => whnf); first
        | refine bs_f (decide_eq_false (by omega)) ?_
        | refine bs_d (fun q => ?_) (fun q => ?_)
        | refine bs_n ?_
        | refine bs_i (fun q => ?_) (fun q => ?_)
        | refine ckS (by first | rfl | simp) rfl hsum (.cons (Sub.rd rfl) .nil) ?_
        | refine eqk rfl ?_
        | refine ffin _ rfl rfl hS (Sub.refl _) rfl ⟨?_, rfl, rfl⟩)
      all_goals rfl
    · rw [sumS, if_neg hf] at hsum ⊢
      repeat' first | with_reducible refine fzD_ite (fun q => ?_) (fun q => ?_) | ((try conv => whnf); first
        | refine bs_f (decide_eq_false (by omega)) ?_
        | refine bs_d (fun q => ?_) (fun q => ?_)
        | refine bs_n ?_
        | refine bs_i (fun q => ?_) (fun q => ?_)
        | refine ckS (by first | rfl | simp) rfl hsum (.cons (Sub.rd rfl) .nil) ?_
        | refine eqk rfl ?_
        | refine ffin _ rfl rfl hS (Sub.refl _) rfl ⟨?_, rfl, rfl⟩)
      all_goals rfl
def isPos (n : Int) : Bool := decide (0 < n)
def isNeg (n : Int) : Bool := decide (n < 0)
theorem tot1 (n : Int) : Pure 59 [.int .i64 n] (.bool (isPos n)) := by
  intro S tk
  refine ACalls.fgo c59 rfl fun hS => ?_
  repeat' first | with_reducible refine fzD_ite (fun q => ?_) (fun q => ?_) | ((try conv => whnf); first
    | refine bs_d (fun q => ?_) (fun q => ?_)
    | refine bs_n ?_
    | refine bs_i (fun q => ?_) (fun q => ?_)
    | refine eqk rfl ?_
    | refine ffin _ rfl rfl hS (Sub.refl _) rfl ⟨?_, rfl, rfl⟩)
  all_goals simp only [tupD, isPos]
  all_goals first | rw [decide_eq_true (by omega)] | rw [decide_eq_false (by omega)]
theorem tot2 (n : Int) : Pure 60 [.int .i64 n] (.bool (isNeg n)) := by
  intro S tk
  refine ACalls.fgo c60 rfl fun hS => ?_
  repeat' first | with_reducible refine fzD_ite (fun q => ?_) (fun q => ?_) | ((try conv => whnf); first
    | refine bs_d (fun q => ?_) (fun q => ?_)
    | refine bs_n ?_
    | refine bs_i (fun q => ?_) (fun q => ?_)
    | refine eqk rfl ?_
    | refine ffin _ rfl rfl hS (Sub.refl _) rfl ⟨?_, rfl, rfl⟩)
  all_goals simp only [tupD, isNeg]
  all_goals first | rw [decide_eq_true (by omega)] | rw [decide_eq_false (by omega)]
def posS (L : List Ln) : Int := ((L.map Ln.amt).filter isPos).sum
def negS (L : List Ln) : Int := ((L.map Ln.amt).filter isNeg).sum
theorem pos_neg : ∀ L : List Ln, posS L + negS L = (L.map Ln.amt).sum ∧ 0 ≤ posS L
  | [] => by simp [posS, negS]
  | x :: L => by
    obtain ⟨h1, h2⟩ := pos_neg L
    unfold posS negS at *
    by_cases a : 0 < x.amt <;> by_cases b : x.amt < 0 <;> simp [isPos, isNeg, a, b] at h1 h2 ⊢ <;> omega
theorem Ent.chk_0 {e : Ent} (h : e.chk = 0) : e.hd ∧ (∀ x ∈ e.L, x.may) ∧ (e.L.map Ln.amt).sum = 0 := by
  unfold Ent.chk at h
  split at h
  · rename_i h1
    split at h
    · exact ⟨h1.1, h1.2, ‹_›⟩
    · omega
  · omega
/-- an entry's totals -/
def totS (e : Ent) : D := if e.chk = 0 then (if posS e.L < 9223372036854775808 then .tup [.int .i64 (posS e.L), .int .i64 (posS e.L), .int .i64 0] else .tup [.int .i64 0, .int .i64 0, .int .i64 2]) else .tup [.int .i64 0, .int .i64 0, .int .i64 e.chk]
theorem Totals (e : Ent) (hR : e.R) : Pure 23 [e.d] (totS e) := by
  intro S tk
  have hc := Check e hR
  by_cases h0 : e.chk = 0
  rotate_left
  · rw [totS, if_neg h0]
    refine ACalls.fgo c23 rfl fun hS => ?_
    repeat' first | with_reducible refine fzD_ite (fun q => ?_) (fun q => ?_) | ((try conv => whnf); first
      | refine bs_f (decide_eq_false h0) ?_
      | refine bs_d (fun q => ?_) (fun q => ?_)
      | refine bs_n ?_
      | refine bs_i (fun q => ?_) (fun q => ?_)
      | refine ck (by first | rfl | simp) rfl (hc) ?_
      | refine cq (hc) ?_
      | refine eqk rfl ?_
      | refine ffin _ rfl rfl hS (Sub.refl _) rfl ⟨?_, rfl, rfl⟩)
    all_goals rfl
  obtain ⟨h1, h2, h3⟩ := Ent.chk_0 h0
  have h4 := pos_neg e.L
  unfold Ent.hd at h1
  rw [h0] at hc
  have s1 := isum 59 rfl isPos tot1 e.L (by omega) hR.L
  have s2 := isum 60 rfl isNeg tot2 e.L (by omega) hR.L
  have hs : ((e.L.map Ln.amt).filter isPos).sum = posS e.L := rfl
  have hn : ((e.L.map Ln.amt).filter isNeg).sum = negS e.L := rfl
  have e4 : negS e.L = - posS e.L := by omega
  rw [totS, if_pos h0]
  by_cases hf : posS e.L < 9223372036854775808
  · rw [sumS, hs, if_pos (by omega)] at s1
    rw [sumS, hn, if_pos (by omega), e4] at s2
    rw [if_pos hf]
    refine ACalls.fgo c23 rfl fun hS => ?_
    repeat' first | with_reducible refine fzD_ite (fun q => ?_) (fun q => ?_) | ((try conv => whnf); first
      | refine bs_d (fun q => ?_) (fun q => ?_)
      | refine bs_n ?_
      | refine bs_i (fun q => ?_) (fun q => ?_)
      | refine ck (by first | rfl | simp) rfl (hc) ?_
      | refine cq (hc) ?_
      | refine ck (by first | rfl | simp) rfl (s1) ?_
      | refine cq (s1) ?_
      | refine ck (by first | rfl | simp) rfl (s2) ?_
      | refine cq (s2) ?_
      | refine eqk rfl ?_
      | refine ffin _ rfl rfl hS (Sub.refl _) rfl ⟨?_, rfl, rfl⟩)
    have hw : IntKind.wrap .i64 (0 - -posS e.L) = posS e.L := by rw [show 0 - -posS e.L = posS e.L by omega]; exact wi64_id (by unfold I64; omega)
    exact congrArg (fun z => D.tup [.int .i64 (posS e.L), .int .i64 z, .int .i64 0]) hw
  · rw [sumS, hs, if_neg (by omega)] at s1
    rw [if_neg hf]
    refine ACalls.fgo c23 rfl fun hS => ?_
    repeat' first | with_reducible refine fzD_ite (fun q => ?_) (fun q => ?_) | ((try conv => whnf); first
      | refine bs_d (fun q => ?_) (fun q => ?_)
      | refine bs_n ?_
      | refine bs_i (fun q => ?_) (fun q => ?_)
      | refine ck (by first | rfl | simp) rfl (hc) ?_
      | refine cq (hc) ?_
      | refine ck (by first | rfl | simp) rfl (s1) ?_
      | refine cq (s1) ?_
      | refine eqk rfl ?_
      | refine ffin _ rfl rfl hS (Sub.refl _) rfl ⟨?_, rfl, rfl⟩)
    all_goals rfl
/-! ## bytes -/
theorem size_foldB : ∀ (l : List Int) (r : ByteArray), (l.foldl (fun r n => r.push (UInt8.ofNat n.toNat)) r).size = r.size + l.length
  | [], r => rfl
  | x :: l, r => by rw [List.foldl_cons, size_foldB l, ByteArray.size_push, List.length_cons]; omega
theorem size_bytesOf (l : List Int) : (bytesOf l).size = l.length := by rw [bytesOf, size_foldB]; simp
theorem numS_size {n : Nat} (h : n < 18446744073709551616) : (numS n).size ≤ 10 := by
  have := numT_len 9 (n / 128) (by omega)
  rw [numS, size_bytesOf, List.length_reverse, numR, List.length_cons]; omega
/-- a line's bytes -/
def lnB (x : Ln) : ByteArray := numS x.acc.toNat ++ numS x.cus.toNat ++ numS x.con.toNat ++ numS (zig x.amt)
def lnsB (L : List Ln) : ByteArray → ByteArray := fun a => L.foldl (fun a x => a ++ lnB x) a
def hdB (e : Ent) : ByteArray := numS e.day.toNat ++ numS e.kind.toNat ++ numS e.src.toNat ++ numS e.L.length
def putB (e : Ent) : ByteArray := lnsB e.L (hdB e)
theorem NumI {n : Int} (h : U64 n) : Pure 61 [.int .u64 n] (.str (numS n.toNat)) := by
  unfold U64 at h
  have := Num n.toNat (by omega)
  rwa [Int.toNat_of_nonneg h.1] at this
theorem lnB_size {x : Ln} (hR : x.R) : (lnB x).size ≤ 40 ∧ (numS x.acc.toNat).size ≤ 10 ∧ (numS x.cus.toNat).size ≤ 10 ∧ (numS x.con.toNat).size ≤ 10 ∧ (numS (zig x.amt)).size ≤ 10 := by
  have h1 := hR.acc
  have h2 := hR.cus
  have h3 := hR.con
  unfold I64 U64 at *
  have k1 := numS_size (n := x.acc.toNat) (by omega)
  have k2 := numS_size (n := x.cus.toNat) (by omega)
  have k3 := numS_size (n := x.con.toNat) (by omega)
  have k4 := numS_size (zig_lt hR.amt)
  refine ⟨?_, k1, k2, k3, k4⟩
  simp only [lnB, ByteArray.size_append]; omega
theorem strA {a b : ByteArray} (h : a.size + b.size ≤ 9223372036854775807) : (if a.size + b.size ≤ 9223372036854775807 then some (D.str (a ++ b)) else none) = some (.str (a ++ b)) := if_pos h
theorem lnsB_snoc (L : List Ln) (x : Ln) (a : ByteArray) : lnsB (L ++ [x]) a = lnsB L a ++ lnB x := by simp [lnsB, List.foldl_append]
theorem lnsB_size : ∀ (L : List Ln) (a : ByteArray), (∀ x ∈ L, x.R) → (lnsB L a).size ≤ a.size + 40 * L.length
  | [], a, _ => by simp [lnsB]
  | x :: L, a, h => by
    have h1 := lnsB_size L (a ++ lnB x) fun y hy => h y (List.mem_cons_of_mem _ hy)
    have h2 := (lnB_size (h x (List.mem_cons_self ..))).1
    rw [ByteArray.size_append] at h1
    rw [lnsB, List.foldl_cons, List.length_cons]
    unfold lnsB at h1
    omega
def putS (e : Ent) : D := if e.chk = 0 then .tup [.str (putB e), .int .i64 0] else .tup [.str ⟨#[]⟩, .int .i64 e.chk]
theorem ba_assoc (a b c : ByteArray) : a ++ (b ++ c) = a ++ b ++ c := by rw [ByteArray.append_assoc]
theorem Put (e : Ent) (hR : e.R) : Pure 25 [e.d] (putS e) := by
  intro S tk
  have hc := Check e hR
  by_cases h0 : e.chk = 0
  rotate_left
  · rw [putS, if_neg h0]
    refine ACalls.fgo c25 rfl fun hS => ?_
    repeat' first | with_reducible refine fzD_ite (fun q => ?_) (fun q => ?_) | ((try conv => whnf); first
      | refine bs_f (decide_eq_false h0) ?_
      | refine bs_d (fun q => ?_) (fun q => ?_)
      | refine bs_n ?_
      | refine bs_i (fun q => ?_) (fun q => ?_)
      | refine ck (by first | rfl | simp) rfl (hc) ?_
      | refine cq (hc) ?_
      | refine eqk rfl ?_
      | refine ffin _ rfl rfl hS (Sub.refl _) rfl ⟨?_, rfl, rfl⟩)
    all_goals rfl
  rw [putS, if_pos h0]
  obtain ⟨h1, h2, h3⟩ := Ent.chk_0 h0
  unfold Ent.hd at h1
  rw [h0] at hc
  have hlen := lns_len e.L
  have hday := hR.day
  have hsrc := hR.src
  have hk := hR.kind
  have hn1 := NumI (n := e.day) (by unfold U64 I64 at *; omega)
  have hn2 := NumI (n := e.kind) (by unfold U64; omega)
  have hn3 := NumI hR.src
  have hn4 := Num e.L.length (by omega)
  have w1 : IntKind.wrap .u64 e.day = e.day := by rw [wu64]; unfold I64 at hday; omega
  have w2 : IntKind.wrap .u64 e.kind = e.kind := by rw [wu64]; omega
  have w4 : IntKind.wrap .u64 ((lns e.L).length : Int) = (e.L.length : Int) := by rw [hlen, wu64]; omega
  have hn1' : Pure 61 [.int .u64 (IntKind.wrap .u64 e.day)] (.str (numS e.day.toNat)) := by rw [w1]; exact hn1
  have hn2' : Pure 61 [.int .u64 (IntKind.wrap .u64 e.kind)] (.str (numS e.kind.toNat)) := by rw [w2]; exact hn2
  have hn4' : Pure 61 [.int .u64 (IntKind.wrap .u64 ((lns e.L).length : Int))] (.str (numS e.L.length)) := by rw [w4]; exact hn4
  have k1 := numS_size (n := e.day.toNat) (by unfold I64 at hday; omega)
  have k2 := numS_size (n := e.kind.toNat) (by omega)
  have k3 := numS_size (n := e.src.toNat) (by unfold U64 at hsrc; omega)
  have k4 := numS_size (n := e.L.length) (by omega)
  refine ACalls.fgo c25 rfl fun hS => ?_
  repeat' first | with_reducible refine fzD_ite (fun q => ?_) (fun q => ?_) | ((try conv => whnf); first
    | refine bs_d (fun q => ?_) (fun q => ?_)
    | refine bs_n ?_
    | refine bs_i (fun q => ?_) (fun q => ?_)
    | refine ck (by first | rfl | simp) rfl (hc) ?_
    | refine cq (hc) ?_
    | refine ck (by first | rfl | simp) rfl (hn1') ?_
    | refine cq (hn1') ?_
    | refine ck (by first | rfl | simp) rfl (hn2') ?_
    | refine cq (hn2') ?_
    | refine ck (by first | rfl | simp) rfl (hn3) ?_
    | refine cq (hn3) ?_
    | refine ck (by first | rfl | simp) rfl (hn4') ?_
    | refine cq (hn4') ?_
    | refine pK_i (strA (by (try simp only [ByteArray.size_append]); omega)) ?_
    | refine eqk rfl ?_
    | refine ffin _ rfl rfl hS (Sub.refl _) rfl ⟨?_, rfl, rfl⟩)

  conv => whnf
  refine floop (α := Nat) rfl rfl hS (fun i => i ≤ e.L.length) (fun i => e.L.length - i) (fun i => [(35, .d (.int .i64 i)), (34, .d (.int .i64 e.L.length)), (33, .d (.sl (lns e.L))), (5, .d (.str (lnsB (e.L.take i) (hdB e))))]) (fun _ => []) (fun _ => []) 0 (Nat.zero_le _) (fstep_drop (J' := []) (Jx := [_]) (TK' := []) (TKx := []) rfl rfl ⟨Sub.refl _, Sub.int (by rw [hlen]), Sub.refl _, Sub.refl _, trivial⟩ (by simp [frD, FD.to, frSc, D.sc, scLL_lns]) rfl) ?_
  intro i hi
  by_cases hlt : i < e.L.length
  · have hx := hR.L _ (mem_at hlt)
    have hmy := h2 _ (mem_at hlt)
    have b1 := hx.cus
    have b2 := hx.con
    have m1 := NumI (n := e.L[i]!.acc) (by unfold U64; unfold Ln.may at hmy; omega)
    have v1 : IntKind.wrap .u64 e.L[i]!.acc = e.L[i]!.acc := by rw [wu64]; unfold Ln.may at hmy; omega
    have m1' : Pure 61 [.int .u64 (IntKind.wrap .u64 e.L[i]!.acc)] (.str (numS e.L[i]!.acc.toNat)) := by rw [v1]; exact m1
    have m2 := NumI hx.cus
    have m3 := NumI hx.con
    have m4 := TInt e.L[i]!.amt hx.amt
    obtain ⟨s0, s1, s2, s3, s4⟩ := lnB_size hx
    have z1 := lnsB_size (e.L.take i) (hdB e) (fun y hy => hR.L y (List.mem_of_mem_take hy))
    have z2 : (hdB e).size ≤ 40 := by simp only [hdB, ByteArray.size_append]; omega
    have z3 : (e.L.take i).length ≤ 64 := by rw [List.length_take]; omega
    have hz : (lnsB (e.L.take i) (hdB e)).size ≤ 2600 := by omega
    repeat' first | with_reducible refine fzD_ite (fun q => ?_) (fun q => ?_) | ((try conv => whnf); first
      | refine bs_t (decide_eq_true (by omega)) ?_
      | refine bs_d (fun q => ?_) (fun q => ?_)
      | refine bs_n ?_
      | refine bs_i (fun q => ?_) (fun q => ?_)
      | refine pK_i (iaD_ln (i := i) rfl hlt) ?_
      | refine ck (by first | rfl | simp) rfl (m1') ?_
      | refine cq (m1') ?_
      | refine ck (by first | rfl | simp) rfl (m2) ?_
      | refine cq (m2) ?_
      | refine ck (by first | rfl | simp) rfl (m3) ?_
      | refine cq (m3) ?_
      | refine ck (by first | rfl | simp) rfl (m4) ?_
      | refine cq (m4) ?_
      | refine pK_i (strA (by (try simp only [ByteArray.size_append]); omega)) ?_
      | refine eqk rfl ?_
      | refine ffin _ rfl rfl hS (Sub.refl _) rfl ⟨?_, rfl, rfl⟩)
    conv => whnf
    refine fnext (α := Nat) (i + 1) (by omega) (by omega) (fstep_drop (J' := []) (Jx := [_]) (TK' := []) (TKx := []) rfl rfl ⟨Sub.int (by first | rfl | omega | (refine Int.sub_eq_zero.mp ?_; simp (disch := ((try unfold I64); omega)) only [wi64_id, td]; omega)), Sub.refl _, Sub.refl _, Sub.of ?_, trivial⟩ (by simp [frD, FD.to, frSc, D.sc, scLL_lns]) rfl)
    rw [take_snA hlt, lnsB_snoc]; rfl
  · obtain rfl : i = e.L.length := by omega
    rw [List.take_length]
    repeat' first | with_reducible refine fzD_ite (fun q => ?_) (fun q => ?_) | ((try conv => whnf); first
      | refine bs_f (decide_eq_false (by omega)) ?_
      | refine bs_d (fun q => ?_) (fun q => ?_)
      | refine bs_n ?_
      | refine bs_i (fun q => ?_) (fun q => ?_)
      | refine eqk rfl ?_
      | refine ffin _ rfl rfl hS (Sub.refl _) rfl ⟨?_, rfl, rfl⟩)
    all_goals rfl
end Go.KL.Ytogpeefldehnkaa.J
