/- slices.Sort: partition -/
import Derived.Test.YthaoejicodhgaaaBase
set_option linter.unusedVariables false
set_option linter.unusedSimpArgs false
set_option linter.unusedSectionVars false
set_option maxRecDepth 4000
namespace Go.KL.Ythaoejicodhgaaa
open Go Go.KL Go.RowKit Go.Proofs Go.Sort

set_option maxHeartbeats 4000000 in
theorem partition (id n : Nat) (d : Array Int) (a b p : Nat) (hd : d.size = n) (hap : a ≤ p) (hpb : p < b) (hb : b ≤ n) (hn : n < 4611686018427387904) :
    Turns 132 id n [.int .i64 a, .int .i64 b, .int .i64 p] d (.tup [.int .i64 (partition ltInt d a b p).1, .bool (partition ltInt d a b p).2.1]) (partition ltInt d a b p).2.2 := by
  intro S0 tk hid
  have hs0 : (swp d a p).size = n := by rw [size_swp']; exact hd
  generalize hd0 : swp d a p = d0 at hs0
  refine ACalls.fgo c132 rfl fun hS => ?_
  repeat' first | with_reducible refine fzD_ite (fun q => ?_) (fun q => ?_) | ((try conv => whnf); first
    | refine bs_d (fun q => ?_) (fun q => ?_) <;> (try simp (disch := ((try unfold I64); omega)) only [wi64_id, td] at q)
    | refine bs_n ?_
    | refine bs_i (fun q => ?_) (fun q => ?_)
    | refine pK_i (iaD_vecN (k := p) (by first | rfl | omega | (refine Int.sub_eq_zero.mp ?_; simp (disch := ((try unfold I64); omega)) only [wi64_id, td]; omega)) (by omega)) ?_
    | refine pK_i (iaD_vecN (k := a) (by first | rfl | omega | (refine Int.sub_eq_zero.mp ?_; simp (disch := ((try unfold I64); omega)) only [wi64_id, td]; omega)) (by omega)) ?_
    | refine pK_i (ldV_VO kE hid hd (by omega)) ?_
    | refine gk_stVO kE hid (List.length_set ..).symm rfl rfl (by simpa using hd) (by omega) rfl ?_
    | refine eqk rfl ?_
    | refine ffin _ rfl rfl hS (Sub.refl _) rfl ⟨?_, rfl, rfl⟩)
  refine floopS (α := SI) rfl (fun t => t.d = d0 ∧ a < t.i ∧ t.i ≤ b ∧ scanUp (fun x => ltInt x d0[a]!) d0 (b - 1) t.i = scanUp (fun x => ltInt x d0[a]!) d0 (b - 1) (a + 1)) (fun t => b - t.i) (fun t => [(10, .d (.int .i64 t.i)), (11, .d (.int .i64 ((b - 1 : Nat) : Int))), (0, .d (vec id n)), (1, .d (.int .i64 a))])
    (fun _ => S0.set id (VI d0)) (fun _ => []) (fun _ => []) (fun _ _ => ⟨by simp, osc_VO' kE _ hS⟩) ⟨d0, a + 1⟩ ⟨rfl, by simp, by simp only; omega, rfl⟩ (by rw [← hd0]; rfl) (fstep_sub ⟨Sub.int (by first | rfl | omega | (refine Int.sub_eq_zero.mp ?_; simp (disch := ((try unfold I64); omega)) only [wi64_id, td]; omega)), Sub.int (by first | rfl | omega | (refine Int.sub_eq_zero.mp ?_; simp (disch := ((try unfold I64); omega)) only [wi64_id, td]; omega)), Sub.refl _, Sub.refl _, trivial⟩) ?_
  rintro t ⟨-, k2, k3, k4⟩
  repeat' first | with_reducible refine fzD_ite (fun q => ?_) (fun q => ?_) | ((try conv => whnf); first
    | refine bs_d (fun q => ?_) (fun q => ?_) <;> (try simp (disch := ((try unfold I64); omega)) only [wi64_id, td] at q)
    | refine bs_n ?_
    | refine bs_i (fun q => ?_) (fun q => ?_)
    | refine ck (by first | rfl | simp) rfl (less _ _) ?_
    | refine cq (less _ _) ?_
    | refine pK_i (iaD_vecN (k := a) (by first | rfl | omega | (refine Int.sub_eq_zero.mp ?_; simp (disch := ((try unfold I64); omega)) only [wi64_id, td]; omega)) (by omega)) ?_
    | refine pK_i (iaD_vecN (k := t.i) (by first | rfl | omega | (refine Int.sub_eq_zero.mp ?_; simp (disch := ((try unfold I64); omega)) only [wi64_id, td]; omega)) (by omega)) ?_
    | refine pK_i (ldV_VO kE hid hs0 (by omega)) ?_
    | refine eqk rfl ?_
    | refine ffin _ rfl rfl hS (Sub.refl _) rfl ⟨?_, rfl, rfl⟩)
  · refine fnextS (α := SI) ⟨d0, t.i + 1⟩ ⟨rfl, by simp only; omega, by simp only; omega, ?_⟩ (by simp only; omega) rfl (fstep_sub ⟨Sub.int (by first | rfl | omega | (refine Int.sub_eq_zero.mp ?_; simp (disch := ((try unfold I64); omega)) only [wi64_id, td]; omega)), Sub.refl _, Sub.refl _, Sub.refl _, trivial⟩)
    rw [← k4, scanUp_step (p := fun x => ltInt x d0[a]!) (i := t.i) (by omega) (ltt (by assumption))]
  all_goals
    have fs : t.i ≤ b - 1 → ltInt d0[t.i]! d0[a]! = false := fun h => by first | (exfalso; omega) | exact ltf (by assumption)
    have hs : scanUp (fun x => ltInt x d0[a]!) d0 (b - 1) t.i = t.i := scanUp_stop fs
    rw [hs] at k4
    refine floopS (α := SI) rfl (fun u => u.d = d0 ∧ u.i ≤ b - 1 ∧ t.i ≤ u.i + 1 ∧ scanDown (fun x => !ltInt x d0[a]!) d0 t.i u.i = scanDown (fun x => !ltInt x d0[a]!) d0 t.i (b - 1)) (fun u => u.i) (fun u => [(10, .d (.int .i64 t.i)), (11, .d (.int .i64 u.i)), (0, .d (vec id n)), (1, .d (.int .i64 a))])
      (fun _ => S0.set id (VI d0)) (fun _ => []) (fun _ => []) (fun _ _ => ⟨by simp, osc_VO' kE _ hS⟩) ⟨d0, b - 1⟩ ⟨rfl, Nat.le_refl _, by simp only; omega, rfl⟩ rfl (fstep_sub ⟨Sub.refl _, Sub.refl _, Sub.refl _, Sub.refl _, trivial⟩) ?_
    rintro u ⟨-, l2, l3, l4⟩
    repeat' first | with_reducible refine fzD_ite (fun q => ?_) (fun q => ?_) | ((try conv => whnf); first
      | refine bs_d (fun q => ?_) (fun q => ?_) <;> (try simp (disch := ((try unfold I64); omega)) only [wi64_id, td] at q)
      | refine bs_n ?_
      | refine bs_i (fun q => ?_) (fun q => ?_)
      | refine ck (by first | rfl | simp) rfl (less _ _) ?_
      | refine cq (less _ _) ?_
      | refine pK_i (iaD_vecN (k := a) (by first | rfl | omega | (refine Int.sub_eq_zero.mp ?_; simp (disch := ((try unfold I64); omega)) only [wi64_id, td]; omega)) (by omega)) ?_
      | refine pK_i (iaD_vecN (k := u.i) (by first | rfl | omega | (refine Int.sub_eq_zero.mp ?_; simp (disch := ((try unfold I64); omega)) only [wi64_id, td]; omega)) (by omega)) ?_
      | refine pK_i (ldV_VO kE hid hs0 (by omega)) ?_
      | refine pK_i (iaD_vecN (k := t.i) (by first | rfl | omega | (refine Int.sub_eq_zero.mp ?_; simp (disch := ((try unfold I64); omega)) only [wi64_id, td]; omega)) (by omega)) ?_
      | refine gk_stVO kE hid (List.length_set ..).symm rfl rfl (by simpa using hs0) (by omega) rfl ?_
      | refine ffin _ (by simp) rfl (osc_VO' kE _ hS) (Sub.refl _) rfl ⟨?_, ?_, rfl⟩
      | refine eqk rfl ?_
      | refine ffin _ rfl rfl hS (Sub.refl _) rfl ⟨?_, rfl, rfl⟩)
    all_goals try (exfalso; omega)
    all_goals try
      (refine fnextS (α := SI) ⟨d0, u.i - 1⟩ ⟨rfl, by simp only; omega, by simp only; omega, ?_⟩ (by simp only; omega) rfl (fstep_sub ⟨Sub.refl _, Sub.int (by first | rfl | omega | (refine Int.sub_eq_zero.mp ?_; simp (disch := ((try unfold I64); omega)) only [wi64_id, td]; omega)), Sub.refl _, Sub.refl _, trivial⟩)
       rw [← l4, scanDown_step (p := fun x => !ltInt x d0[a]!) (j := u.i) (by omega) (by omega) (by simp only [ltf (show ¬ d0[u.i]! < d0[a]! by assumption)]; rfl)])
    all_goals
      have fu : t.i ≤ u.i → ltInt d0[u.i]! d0[a]! = true := fun h => by first | (exfalso; omega) | exact ltt (by assumption)
      have hu : scanDown (fun x => !ltInt x d0[a]!) d0 t.i u.i = u.i := scanDown_stop fun h => by simp only [fu h]; rfl
      rw [hu] at l4
      have hpt := partition_of (lt := ltInt) (d := d) (p := p) (b := b) hd0 k4 l4
    all_goals try (rw [hpt, if_pos (by omega)]; rfl)
    all_goals try rw [hpt, if_pos (by omega)]
    all_goals
      rw [if_neg (by omega)] at hpt
      have hne : t.i ≠ u.i := fun e => by
        have x1 := fs (by omega)
        rw [e, fu (by omega)] at x1
        cases x1
      rw [hpt]
      refine floopS (α := SJ) rfl (fun s => s.d.size = n ∧ a < s.i ∧ s.i ≤ s.j + 1 ∧ s.j < b ∧ partLoop ltInt a s.i s.j s.d = partLoop ltInt a (t.i + 1) (u.i - 1) (swp d0 t.i u.i)) (fun s => s.j + 1 - s.i) (fun s => [(10, .d (.int .i64 s.i)), (11, .d (.int .i64 s.j)), (0, .d (vec id n)), (1, .d (.int .i64 a))])
        (fun s => S0.set id (VI s.d)) (fun _ => []) (fun _ => []) (fun s _ => ⟨by simp, osc_VO' kE _ hS⟩) ⟨swp d0 t.i u.i, t.i + 1, u.i - 1⟩ ⟨by rw [size_swp']; exact hs0, by simp only; omega, by simp only; omega, by simp only; omega, rfl⟩ rfl (fstep_sub ⟨Sub.int (by first | rfl | omega | (refine Int.sub_eq_zero.mp ?_; simp (disch := ((try unfold I64); omega)) only [wi64_id, td]; omega)), Sub.int (by first | rfl | omega | (refine Int.sub_eq_zero.mp ?_; simp (disch := ((try unfold I64); omega)) only [wi64_id, td]; omega)), Sub.refl _, Sub.refl _, trivial⟩) ?_
      clear hpt hu l4 l3 l2 fu hs k4 hne fs k3 k2
      generalize partLoop ltInt a (t.i + 1) (u.i - 1) (swp d0 t.i u.i) = R
      rintro s ⟨h1, h2, h3, h4, h5⟩
      refine floopS (α := SI) rfl (fun t => t.d = s.d ∧ s.i ≤ t.i ∧ t.i ≤ s.j + 1 ∧ scanUp (fun x => ltInt x s.d[a]!) s.d s.j t.i = scanUp (fun x => ltInt x s.d[a]!) s.d s.j s.i) (fun t => s.j + 1 - t.i) (fun t => [(10, .d (.int .i64 t.i)), (11, .d (.int .i64 s.j)), (0, .d (vec id n)), (1, .d (.int .i64 a))])
        (fun _ => S0.set id (VI s.d)) (fun _ => []) (fun _ => []) (fun _ _ => ⟨by simp, osc_VO' kE _ hS⟩) ⟨s.d, s.i⟩ ⟨rfl, Nat.le_refl _, h3, rfl⟩ rfl (fstep_sub ⟨Sub.refl _, Sub.refl _, Sub.refl _, Sub.refl _, trivial⟩) ?_
      rintro t ⟨-, k2, k3, k4⟩
      repeat' first | with_reducible refine fzD_ite (fun q => ?_) (fun q => ?_) | ((try conv => whnf); first
        | refine bs_d (fun q => ?_) (fun q => ?_) <;> (try simp (disch := ((try unfold I64); omega)) only [wi64_id, td] at q)
        | refine bs_n ?_
        | refine bs_i (fun q => ?_) (fun q => ?_)
        | refine ck (by first | rfl | simp) rfl (less _ _) ?_
        | refine cq (less _ _) ?_
        | refine pK_i (iaD_vecN (k := a) (by first | rfl | omega | (refine Int.sub_eq_zero.mp ?_; simp (disch := ((try unfold I64); omega)) only [wi64_id, td]; omega)) (by omega)) ?_
        | refine pK_i (iaD_vecN (k := t.i) (by first | rfl | omega | (refine Int.sub_eq_zero.mp ?_; simp (disch := ((try unfold I64); omega)) only [wi64_id, td]; omega)) (by omega)) ?_
        | refine pK_i (ldV_VO kE hid h1 (by omega)) ?_
        | refine eqk rfl ?_
        | refine ffin _ rfl rfl hS (Sub.refl _) rfl ⟨?_, rfl, rfl⟩)
      · refine fnextS (α := SI) ⟨s.d, t.i + 1⟩ ⟨rfl, by simp only; omega, by simp only; omega, ?_⟩ (by simp only; omega) rfl (fstep_sub ⟨Sub.int (by first | rfl | omega | (refine Int.sub_eq_zero.mp ?_; simp (disch := ((try unfold I64); omega)) only [wi64_id, td]; omega)), Sub.refl _, Sub.refl _, Sub.refl _, trivial⟩)
        rw [← k4, scanUp_step (p := fun x => ltInt x s.d[a]!) (i := t.i) (by omega) (ltt (by assumption))]
      all_goals
        have fs : t.i ≤ s.j → ltInt s.d[t.i]! s.d[a]! = false := fun h => by first | (exfalso; omega) | exact ltf (by assumption)
        have hs : scanUp (fun x => ltInt x s.d[a]!) s.d s.j t.i = t.i := scanUp_stop fs
        rw [hs] at k4
        refine floopS (α := SI) rfl (fun u => u.d = s.d ∧ u.i ≤ s.j ∧ t.i ≤ u.i + 1 ∧ scanDown (fun x => !ltInt x s.d[a]!) s.d t.i u.i = scanDown (fun x => !ltInt x s.d[a]!) s.d t.i s.j) (fun u => u.i) (fun u => [(10, .d (.int .i64 t.i)), (11, .d (.int .i64 u.i)), (0, .d (vec id n)), (1, .d (.int .i64 a))])
          (fun _ => S0.set id (VI s.d)) (fun _ => []) (fun _ => []) (fun _ _ => ⟨by simp, osc_VO' kE _ hS⟩) ⟨s.d, s.j⟩ ⟨rfl, Nat.le_refl _, by simp only; omega, rfl⟩ rfl (fstep_sub ⟨Sub.refl _, Sub.refl _, Sub.refl _, Sub.refl _, trivial⟩) ?_
        rintro u ⟨-, l2, l3, l4⟩
        repeat' first | with_reducible refine fzD_ite (fun q => ?_) (fun q => ?_) | ((try conv => whnf); first
          | refine bs_d (fun q => ?_) (fun q => ?_) <;> (try simp (disch := ((try unfold I64); omega)) only [wi64_id, td] at q)
          | refine bs_n ?_
          | refine bs_i (fun q => ?_) (fun q => ?_)
          | refine ck (by first | rfl | simp) rfl (less _ _) ?_
          | refine cq (less _ _) ?_
          | refine pK_i (iaD_vecN (k := a) (by first | rfl | omega | (refine Int.sub_eq_zero.mp ?_; simp (disch := ((try unfold I64); omega)) only [wi64_id, td]; omega)) (by omega)) ?_
          | refine pK_i (iaD_vecN (k := u.i) (by first | rfl | omega | (refine Int.sub_eq_zero.mp ?_; simp (disch := ((try unfold I64); omega)) only [wi64_id, td]; omega)) (by omega)) ?_
          | refine pK_i (ldV_VO kE hid h1 (by omega)) ?_
          | refine pK_i (iaD_vecN (k := t.i) (by first | rfl | omega | (refine Int.sub_eq_zero.mp ?_; simp (disch := ((try unfold I64); omega)) only [wi64_id, td]; omega)) (by omega)) ?_
          | refine gk_stVO kE hid (List.length_set ..).symm rfl rfl (by simpa using h1) (by omega) rfl ?_
          | refine ffin _ (by simp) rfl (osc_VO' kE _ hS) (Sub.refl _) rfl ⟨?_, ?_, rfl⟩
          | refine eqk rfl ?_
          | refine ffin _ rfl rfl hS (Sub.refl _) rfl ⟨?_, rfl, rfl⟩)
        all_goals try (exfalso; omega)
        all_goals try
          (refine fnextS (α := SI) ⟨s.d, u.i - 1⟩ ⟨rfl, by simp only; omega, by simp only; omega, ?_⟩ (by simp only; omega) rfl (fstep_sub ⟨Sub.refl _, Sub.int (by first | rfl | omega | (refine Int.sub_eq_zero.mp ?_; simp (disch := ((try unfold I64); omega)) only [wi64_id, td]; omega)), Sub.refl _, Sub.refl _, trivial⟩)
           rw [← l4, scanDown_step (p := fun x => !ltInt x s.d[a]!) (j := u.i) (by omega) (by omega) (by simp only [ltf (show ¬ s.d[u.i]! < s.d[a]! by assumption)]; rfl)])
        all_goals
          have fu : t.i ≤ u.i → ltInt s.d[u.i]! s.d[a]! = true := fun h => by first | (exfalso; omega) | exact ltt (by assumption)
          have hu : scanDown (fun x => !ltInt x s.d[a]!) s.d t.i u.i = u.i := scanDown_stop fun h => by simp only [fu h]; rfl
          rw [hu] at l4
          have heq := partLoop_eq ltInt a s.i s.j s.d
          rw [← k4, ← l4] at heq
        all_goals try (rw [← h5, heq, if_pos (by omega)]; rfl)
        all_goals try rw [← h5, heq, if_pos (by omega)]
        all_goals
          rw [if_neg (by omega)] at heq
          have hne : t.i ≠ u.i := fun e => by
            have x1 := fs (by omega)
            rw [e, fu (by omega)] at x1
            cases x1
          refine fnextS (α := SJ) ⟨swp s.d t.i u.i, t.i + 1, u.i - 1⟩ ⟨by rw [size_swp']; exact h1, by simp only; omega, by simp only; omega, by simp only; omega, ?_⟩ (by simp only; omega) rfl (fstep_sub ⟨Sub.int (by first | rfl | omega | (refine Int.sub_eq_zero.mp ?_; simp (disch := ((try unfold I64); omega)) only [wi64_id, td]; omega)), Sub.int (by first | rfl | omega | (refine Int.sub_eq_zero.mp ?_; simp (disch := ((try unfold I64); omega)) only [wi64_id, td]; omega)), Sub.refl _, Sub.refl _, trivial⟩)
          rw [← h5, heq]
end Go.KL.Ythaoejicodhgaaa

/- slices.Sort: partialInsertionSort -/
set_option linter.unusedVariables false
set_option linter.unusedSimpArgs false
set_option linter.unusedSectionVars false
set_option maxRecDepth 4000
namespace Go.KL.Ythaoejicodhgaaa
open Go Go.KL Go.RowKit Go.Proofs Go.Sort

theorem c129 : cFun E0.P 129 = some ⟨133, [(6, none)], .seq (.rg [⟨some 6, none, .mv (.k (.bool false))⟩]) (.seq (.rg [⟨some 11, none, .mv (.t 1)⟩, ⟨some 12, none, .bin .add .leaf (.t 11) (.k (.int .i64 1))⟩, ⟨some 7, none, .mv (.t 12)⟩]) (.seq (.seq (.rg [⟨some 8, none, .mv (.k (.int .i64 0))⟩]) (.block 0 (.loop (.seq (.seq (.rg [⟨some 13, none, .mv (.t 8)⟩, ⟨some 14, none, .bin .lss .leaf (.t 13) (.k (.int .i64 5))⟩]) (.cond (.t 14) .skip (.exit 0))) (.seq (.block 1 (.seq (.block 2 (.loop (.seq (.seq (.rd [(⟨some 17, none, .mv (.t 7)⟩, none), (⟨some 18, none, .mv (.t 2)⟩, none), (⟨some 19, none, .bin .lss .leaf (.t 17) (.t 18)⟩, none), (⟨some 20, none, .mv (.t 19)⟩, none), (⟨some 21, some (20, true), .mv (.t 0)⟩, none), (⟨some 22, some (20, true), .mv (.t 7)⟩, none), (⟨some 23, some (20, true), .ia 1 (.t 21) (.t 22)⟩, none), (⟨some 24, some (20, true), .ld 1 false (.t 23)⟩, none), (⟨some 25, some (20, true), .mv (.t 0)⟩, none), (⟨some 26, some (20, true), .mv (.t 7)⟩, none), (⟨some 27, some (20, true), .bin .sub .leaf (.t 26) (.k (.int .i64 1))⟩, none), (⟨some 28, some (20, true), .ia 1 (.t 25) (.t 27)⟩, none), (⟨some 29, some (20, true), .ld 1 false (.t 28)⟩, none), (⟨some 30, some (20, true), .call 130 [.t 24, .t 29]⟩, some []), (⟨some 31, some (20, true), .un .not (.t 30)⟩, none), (⟨some 32, none, .pick (.t 20) (.t 31) (.k (.bool false))⟩, none)]) (.cond (.t 32) .skip (.exit 2))) (.block 3 (.rg [⟨some 33, none, .mv (.t 7)⟩, ⟨some 34, none, .bin .add .leaf (.t 33) (.k (.int .i64 1))⟩, ⟨some 7, none, .mv (.t 34)⟩]))))) (.seq (.seq (.rg [⟨some 35, none, .mv (.t 7)⟩, ⟨some 36, none, .mv (.t 2)⟩, ⟨some 37, none, .bin .eql .leaf (.t 35) (.t 36)⟩]) (.cond (.t 37) (.seq (.rg [⟨some 6, none, .mv (.k (.bool true))⟩]) .ret) .skip)) (.seq (.seq (.rg [⟨some 38, none, .mv (.t 2)⟩, ⟨some 39, none, .mv (.t 1)⟩, ⟨some 40, none, .bin .sub .leaf (.t 38) (.t 39)⟩, ⟨some 41, none, .bin .lss .leaf (.t 40) (.k (.int .i64 50))⟩]) (.cond (.t 41) (.seq (.rg [⟨some 6, none, .mv (.k (.bool false))⟩]) .ret) .skip)) (.seq (.rd [(⟨some 42, none, .mv (.t 0)⟩, none), (⟨some 43, none, .mv (.t 7)⟩, none), (⟨some 44, none, .mv (.t 0)⟩, none), (⟨some 45, none, .mv (.t 7)⟩, none), (⟨some 46, none, .bin .sub .leaf (.t 45) (.k (.int .i64 1))⟩, none), (⟨some 47, none, .mv (.t 0)⟩, none), (⟨some 48, none, .mv (.t 7)⟩, none), (⟨some 49, none, .bin .sub .leaf (.t 48) (.k (.int .i64 1))⟩, none), (⟨some 50, none, .ia 1 (.t 47) (.t 49)⟩, none), (⟨some 51, none, .ld 1 false (.t 50)⟩, none), (⟨some 52, none, .mv (.t 0)⟩, none), (⟨some 53, none, .mv (.t 7)⟩, none), (⟨some 54, none, .ia 1 (.t 52) (.t 53)⟩, none), (⟨some 55, none, .ld 1 false (.t 54)⟩, none), (⟨some 56, none, .ia 1 (.t 42) (.t 43)⟩, none), (⟨none, none, .st 1 (.t 56) (.t 51)⟩, some []), (⟨some 57, none, .ia 1 (.t 44) (.t 46)⟩, none), (⟨none, none, .st 1 (.t 57) (.t 55)⟩, some [])]) (.seq (.seq (.rg [⟨some 58, none, .mv (.t 7)⟩, ⟨some 59, none, .mv (.t 1)⟩, ⟨some 60, none, .bin .sub .leaf (.t 58) (.t 59)⟩, ⟨some 61, none, .bin .geq .leaf (.t 60) (.k (.int .i64 2))⟩]) (.cond (.t 61) (.seq (.rg [⟨some 62, none, .mv (.t 7)⟩, ⟨some 63, none, .bin .sub .leaf (.t 62) (.k (.int .i64 1))⟩, ⟨some 9, none, .mv (.t 63)⟩]) (.block 4 (.loop (.seq (.seq (.rg [⟨some 64, none, .mv (.t 9)⟩, ⟨some 65, none, .bin .geq .leaf (.t 64) (.k (.int .i64 1))⟩]) (.cond (.t 65) .skip (.exit 4))) (.seq (.block 5 (.seq (.seq (.rd [(⟨some 68, none, .mv (.t 0)⟩, none), (⟨some 69, none, .mv (.t 9)⟩, none), (⟨some 70, none, .ia 1 (.t 68) (.t 69)⟩, none), (⟨some 71, none, .ld 1 false (.t 70)⟩, none), (⟨some 72, none, .mv (.t 0)⟩, none), (⟨some 73, none, .mv (.t 9)⟩, none), (⟨some 74, none, .bin .sub .leaf (.t 73) (.k (.int .i64 1))⟩, none), (⟨some 75, none, .ia 1 (.t 72) (.t 74)⟩, none), (⟨some 76, none, .ld 1 false (.t 75)⟩, none), (⟨some 77, none, .call 130 [.t 71, .t 76]⟩, some []), (⟨some 78, none, .un .not (.t 77)⟩, none)]) (.cond (.t 78) (.exit 4) .skip)) (.rd [(⟨some 79, none, .mv (.t 0)⟩, none), (⟨some 80, none, .mv (.t 9)⟩, none), (⟨some 81, none, .mv (.t 0)⟩, none), (⟨some 82, none, .mv (.t 9)⟩, none), (⟨some 83, none, .bin .sub .leaf (.t 82) (.k (.int .i64 1))⟩, none), (⟨some 84, none, .mv (.t 0)⟩, none), (⟨some 85, none, .mv (.t 9)⟩, none), (⟨some 86, none, .bin .sub .leaf (.t 85) (.k (.int .i64 1))⟩, none), (⟨some 87, none, .ia 1 (.t 84) (.t 86)⟩, none), (⟨some 88, none, .ld 1 false (.t 87)⟩, none), (⟨some 89, none, .mv (.t 0)⟩, none), (⟨some 90, none, .mv (.t 9)⟩, none), (⟨some 91, none, .ia 1 (.t 89) (.t 90)⟩, none), (⟨some 92, none, .ld 1 false (.t 91)⟩, none), (⟨some 93, none, .ia 1 (.t 79) (.t 80)⟩, none), (⟨none, none, .st 1 (.t 93) (.t 88)⟩, some []), (⟨some 94, none, .ia 1 (.t 81) (.t 83)⟩, none), (⟨none, none, .st 1 (.t 94) (.t 92)⟩, some [])]))) (.rg [⟨some 66, none, .mv (.t 9)⟩, ⟨some 67, none, .bin .sub .leaf (.t 66) (.k (.int .i64 1))⟩, ⟨some 9, none, .mv (.t 67)⟩])))))) .skip)) (.seq (.rg [⟨some 95, none, .mv (.t 2)⟩, ⟨some 96, none, .mv (.t 7)⟩, ⟨some 97, none, .bin .sub .leaf (.t 95) (.t 96)⟩, ⟨some 98, none, .bin .geq .leaf (.t 97) (.k (.int .i64 2))⟩]) (.cond (.t 98) (.seq (.rg [⟨some 99, none, .mv (.t 7)⟩, ⟨some 100, none, .bin .add .leaf (.t 99) (.k (.int .i64 1))⟩, ⟨some 10, none, .mv (.t 100)⟩]) (.block 6 (.loop (.seq (.seq (.rg [⟨some 101, none, .mv (.t 10)⟩, ⟨some 102, none, .mv (.t 2)⟩, ⟨some 103, none, .bin .lss .leaf (.t 101) (.t 102)⟩]) (.cond (.t 103) .skip (.exit 6))) (.seq (.block 7 (.seq (.seq (.rd [(⟨some 106, none, .mv (.t 0)⟩, none), (⟨some 107, none, .mv (.t 10)⟩, none), (⟨some 108, none, .ia 1 (.t 106) (.t 107)⟩, none), (⟨some 109, none, .ld 1 false (.t 108)⟩, none), (⟨some 110, none, .mv (.t 0)⟩, none), (⟨some 111, none, .mv (.t 10)⟩, none), (⟨some 112, none, .bin .sub .leaf (.t 111) (.k (.int .i64 1))⟩, none), (⟨some 113, none, .ia 1 (.t 110) (.t 112)⟩, none), (⟨some 114, none, .ld 1 false (.t 113)⟩, none), (⟨some 115, none, .call 130 [.t 109, .t 114]⟩, some []), (⟨some 116, none, .un .not (.t 115)⟩, none)]) (.cond (.t 116) (.exit 6) .skip)) (.rd [(⟨some 117, none, .mv (.t 0)⟩, none), (⟨some 118, none, .mv (.t 10)⟩, none), (⟨some 119, none, .mv (.t 0)⟩, none), (⟨some 120, none, .mv (.t 10)⟩, none), (⟨some 121, none, .bin .sub .leaf (.t 120) (.k (.int .i64 1))⟩, none), (⟨some 122, none, .mv (.t 0)⟩, none), (⟨some 123, none, .mv (.t 10)⟩, none), (⟨some 124, none, .bin .sub .leaf (.t 123) (.k (.int .i64 1))⟩, none), (⟨some 125, none, .ia 1 (.t 122) (.t 124)⟩, none), (⟨some 126, none, .ld 1 false (.t 125)⟩, none), (⟨some 127, none, .mv (.t 0)⟩, none), (⟨some 128, none, .mv (.t 10)⟩, none), (⟨some 129, none, .ia 1 (.t 127) (.t 128)⟩, none), (⟨some 130, none, .ld 1 false (.t 129)⟩, none), (⟨some 131, none, .ia 1 (.t 117) (.t 118)⟩, none), (⟨none, none, .st 1 (.t 131) (.t 126)⟩, some []), (⟨some 132, none, .ia 1 (.t 119) (.t 121)⟩, none), (⟨none, none, .st 1 (.t 132) (.t 130)⟩, some [])]))) (.rg [⟨some 104, none, .mv (.t 10)⟩, ⟨some 105, none, .bin .add .leaf (.t 104) (.k (.int .i64 1))⟩, ⟨some 10, none, .mv (.t 105)⟩])))))) .skip)))))))) (.rg [⟨some 15, none, .mv (.t 8)⟩, ⟨some 16, none, .bin .add .leaf (.t 15) (.k (.int .i64 1))⟩, ⟨some 8, none, .mv (.t 16)⟩])))))) (.seq (.rg [⟨some 6, none, .mv (.k (.bool false))⟩]) .ret)))⟩ := by kernel_rfl

set_option maxHeartbeats 4000000 in
theorem partialInsertionSort (id n : Nat) (d : Array Int) (a b : Nat) (hd : d.size = n) (hab : a < b) (hb : b ≤ n) (hn : n < 4611686018427387904) :
    Turns 129 id n [.int .i64 a, .int .i64 b] d (.bool (partialInsertionSort ltInt d a b).2) (partialInsertionSort ltInt d a b).1 := by
  intro S0 tk hid
  refine ACalls.fgo c129 rfl fun hS => ?_
  repeat' first | with_reducible refine fzD_ite (fun q => ?_) (fun q => ?_) | ((try conv => whnf); first
    | refine bs_d (fun q => ?_) (fun q => ?_)
    | refine bs_n ?_
    | refine bs_i (fun q => ?_) (fun q => ?_)
    | refine eqk rfl ?_
    | refine ffin _ rfl rfl hS (Sub.refl _) rfl ⟨?_, rfl, rfl⟩)
  refine floopS (α := SJ) rfl (fun s => s.d.size = n ∧ a < s.i ∧ s.i ≤ b ∧ s.j ≤ 5 ∧ partialIns ltInt a b (5 - s.j) s.i s.d = Sort.partialInsertionSort ltInt d a b) (fun s => 5 - s.j) (fun s => [(7, .d (.int .i64 s.i)), (8, .d (.int .i64 s.j)), (0, .d (vec id n)), (1, .d (.int .i64 a)), (2, .d (.int .i64 b))])
    (fun s => S0.set id (VI s.d)) (fun _ => []) (fun _ => []) (fun s _ => ⟨by simp, osc_VO' kE _ hS⟩) ⟨d, a + 1, 0⟩ ⟨hd, by simp, by simp only; omega, by simp, rfl⟩ rfl (fstep_sub ⟨Sub.int (by first | rfl | omega | (refine Int.sub_eq_zero.mp ?_; simp (disch := ((try unfold I64); omega)) only [wi64_id, td]; omega)), Sub.refl _, Sub.refl _, Sub.refl _, Sub.refl _, trivial⟩) ?_
  rintro s ⟨h1, h2, h3, h4, h5⟩
  repeat' first | with_reducible refine fzD_ite (fun q => ?_) (fun q => ?_) | ((try conv => whnf); first
    | refine bs_d (fun q => ?_) (fun q => ?_) <;> (try simp (disch := ((try unfold I64); omega)) only [wi64_id, td] at q)
    | refine bs_n ?_
    | refine bs_i (fun q => ?_) (fun q => ?_)
    | refine ffin _ (by simp) rfl (osc_VO' kE _ hS) (Sub.refl _) rfl ⟨?_, ?_, rfl⟩
    | refine eqk rfl ?_
    | refine ffin _ rfl rfl hS (Sub.refl _) rfl ⟨?_, rfl, rfl⟩)
  case' refine_2.refine_1 =>
    rw [← h5, show 5 - s.j = 0 from by omega]; rfl
  case' refine_2.refine_2 =>
    rw [← h5, show 5 - s.j = 0 from by omega]; rfl
  refine floopS (α := SI) rfl (fun t => t.d = s.d ∧ s.i ≤ t.i ∧ t.i ≤ b ∧ scanSorted ltInt s.d b t.i = scanSorted ltInt s.d b s.i) (fun t => b - t.i) (fun t => [(7, .d (.int .i64 t.i)), (8, .d (.int .i64 s.j)), (0, .d (vec id n)), (1, .d (.int .i64 a)), (2, .d (.int .i64 b))])
    (fun _ => S0.set id (VI s.d)) (fun _ => []) (fun _ => []) (fun _ _ => ⟨by simp, osc_VO' kE _ hS⟩) ⟨s.d, s.i⟩ ⟨rfl, Nat.le_refl _, h3, rfl⟩ rfl (fstep_sub ⟨Sub.refl _, Sub.refl _, Sub.refl _, Sub.refl _, Sub.refl _, trivial⟩) ?_
  rintro t ⟨-, k2, k3, k4⟩
  repeat' first | with_reducible refine fzD_ite (fun q => ?_) (fun q => ?_) | ((try conv => whnf); first
    | refine bs_d (fun q => ?_) (fun q => ?_) <;> (try simp (disch := ((try unfold I64); omega)) only [wi64_id, td] at q)
    | refine bs_n ?_
    | refine bs_i (fun q => ?_) (fun q => ?_)
    | refine ck (by first | rfl | simp) rfl (less _ _) ?_
    | refine cq (less _ _) ?_
    | refine pK_i (iaD_vecN (k := t.i) (by first | rfl | omega | (refine Int.sub_eq_zero.mp ?_; simp (disch := ((try unfold I64); omega)) only [wi64_id, td]; omega)) (by omega)) ?_
    | refine pK_i (iaD_vecN (k := t.i - 1) (by first | rfl | omega | (refine Int.sub_eq_zero.mp ?_; simp (disch := ((try unfold I64); omega)) only [wi64_id, td]; omega)) (by omega)) ?_
    | refine pK_i (ldV_VO kE hid h1 (by omega)) ?_
    | refine gk_stVO kE hid (List.length_set ..).symm rfl rfl (by simpa using h1) (by omega) rfl ?_
    | refine ffin _ (by simp) rfl (osc_VO' kE _ hS) (Sub.refl _) rfl ⟨?_, ?_, rfl⟩
    | refine eqk rfl ?_
    | refine ffin _ rfl rfl hS (Sub.refl _) rfl ⟨?_, rfl, rfl⟩)
  all_goals try
    (refine fnextS (α := SI) ⟨s.d, t.i + 1⟩ ⟨rfl, by simp only; omega, by simp only; omega, ?_⟩ (by simp only; omega) rfl (fstep_sub ⟨Sub.int (by first | rfl | omega | (refine Int.sub_eq_zero.mp ?_; simp (disch := ((try unfold I64); omega)) only [wi64_id, td]; omega)), Sub.refl _, Sub.refl _, Sub.refl _, Sub.refl _, trivial⟩)
     rw [← k4, scanSorted_step (i := t.i) (by omega) (ltf (show ¬ s.d[t.i]! < s.d[t.i - 1]! by assumption))])
  all_goals try (exfalso; omega)
  all_goals
    have fs : t.i < b → ltInt s.d[t.i]! s.d[t.i - 1]! = true := fun h => by first | (exfalso; omega) | exact ltt (by assumption)
    rw [scanSorted_stop fs] at k4
    have hpi := partialIns_of (lt := ltInt) (a := a) (s := 5 - (s.j + 1)) k4 rfl rfl
    rw [show 5 - (s.j + 1) + 1 = 5 - s.j from by omega, h5] at hpi
  all_goals try (rw [hpi, if_pos (by omega)]; rfl)
  all_goals try rw [hpi, if_pos (by omega)]
  all_goals try (rw [hpi, if_neg (by omega), if_pos (by omega)]; rfl)
  all_goals try rw [hpi, if_neg (by omega), if_pos (by omega)]
  all_goals clear hpi
  all_goals try
    (refine floopS (α := SI) rfl (fun u => u.d.size = n ∧ u.i ≤ t.i - 1 ∧ Sort.shiftDown ltInt u.i u.d = Sort.shiftDown ltInt (t.i - 1) (swp s.d t.i (t.i - 1))) (fun u => u.i) (fun u => [(9, .d (.int .i64 u.i)), (7, .d (.int .i64 t.i)), (8, .d (.int .i64 s.j)), (0, .d (vec id n)), (1, .d (.int .i64 a)), (2, .d (.int .i64 b))])
      (fun u => S0.set id (VI u.d)) (fun _ => []) (fun _ => []) (fun u _ => ⟨by simp, osc_VO' kE _ hS⟩) ⟨swp s.d t.i (t.i - 1), t.i - 1⟩ ⟨by rw [size_swp']; exact h1, by simp, rfl⟩ rfl (fstep_sub ⟨Sub.int (by first | rfl | omega | (refine Int.sub_eq_zero.mp ?_; simp (disch := ((try unfold I64); omega)) only [wi64_id, td]; omega)), Sub.refl _, Sub.refl _, Sub.refl _, Sub.refl _, Sub.refl _, trivial⟩) ?_
     rintro u ⟨u1, u2, u3⟩
     repeat' first | with_reducible refine fzD_ite (fun q => ?_) (fun q => ?_) | ((try conv => whnf); first
       | refine bs_d (fun q => ?_) (fun q => ?_) <;> (try simp (disch := ((try unfold I64); omega)) only [wi64_id, td] at q)
       | refine bs_n ?_
       | refine bs_i (fun q => ?_) (fun q => ?_)
       | refine ck (by first | rfl | simp) rfl (less _ _) ?_
       | refine cq (less _ _) ?_
       | refine pK_i (iaD_vecN (k := u.i) (by first | rfl | omega | (refine Int.sub_eq_zero.mp ?_; simp (disch := ((try unfold I64); omega)) only [wi64_id, td]; omega)) (by omega)) ?_
       | refine pK_i (iaD_vecN (k := u.i - 1) (by first | rfl | omega | (refine Int.sub_eq_zero.mp ?_; simp (disch := ((try unfold I64); omega)) only [wi64_id, td]; omega)) (by omega)) ?_
       | refine pK_i (ldV_VO kE hid u1 (by omega)) ?_
       | refine gk_stVO kE hid (List.length_set ..).symm rfl rfl (by simpa using u1) (by omega) rfl ?_
       | refine eqk rfl ?_
       | refine ffin _ rfl rfl hS (Sub.refl _) rfl ⟨?_, rfl, rfl⟩)
     all_goals try
       (refine fnextS (α := SI) ⟨swp u.d u.i (u.i - 1), u.i - 1⟩ ⟨by rw [size_swp']; exact u1, by simp only; omega, ?_⟩ (by simp only; omega) rfl (fstep_sub ⟨Sub.int (by first | rfl | omega | (refine Int.sub_eq_zero.mp ?_; simp (disch := ((try unfold I64); omega)) only [wi64_id, td]; omega)), Sub.refl _, Sub.refl _, Sub.refl _, Sub.refl _, Sub.refl _, trivial⟩)
        rw [← u3, shiftDown_step (j := u.i) (by omega) (ltt (by assumption))])
     all_goals
       have fu : 0 < u.i → ltInt u.d[u.i]! u.d[u.i - 1]! = false := fun h => by first | (exfalso; omega) | exact ltf (by assumption)
       rw [shiftDown_stop fu] at u3
       have hd2 : (if t.i - a ≥ 2 then Sort.shiftDown ltInt (t.i - 1) (swp s.d t.i (t.i - 1)) else swp s.d t.i (t.i - 1)) = u.d := by rw [if_pos (by omega), ← u3]
       have hD := u1
     all_goals
       have hst : ∀ D', (if b - t.i ≥ 2 then shiftUp ltInt b (t.i + 1) (u.d) else (u.d)) = D' → partialIns ltInt a b (5 - (s.j + 1)) t.i D' = Sort.partialInsertionSort ltInt d a b := fun D' h => by
         have := partialIns_of (lt := ltInt) (a := a) (s := 5 - (s.j + 1)) k4 hd2 h
         rw [if_neg (by omega), if_neg (by omega), show 5 - (s.j + 1) + 1 = 5 - s.j from by omega] at this
         rw [← this, h5]
     all_goals try
       (refine fnextS (α := SJ) ⟨u.d, t.i, s.j + 1⟩ ⟨hD, by simp only; omega, by simp only; omega, by simp only; omega, ?_⟩ (by simp only; omega) rfl (fstep_sub ⟨Sub.refl _, Sub.int (by first | rfl | omega | (refine Int.sub_eq_zero.mp ?_; simp (disch := ((try unfold I64); omega)) only [wi64_id, td]; omega)), Sub.refl _, Sub.refl _, Sub.refl _, trivial⟩)
        exact hst _ (by rw [if_neg (by omega)]))
     all_goals
       refine floopS (α := SI) rfl (fun v => v.d.size = n ∧ t.i < v.i ∧ v.i ≤ b ∧ shiftUp ltInt b v.i v.d = shiftUp ltInt b (t.i + 1) (u.d)) (fun v => b - v.i) (fun v => [(10, .d (.int .i64 v.i)), (7, .d (.int .i64 t.i)), (8, .d (.int .i64 s.j)), (0, .d (vec id n)), (1, .d (.int .i64 a)), (2, .d (.int .i64 b))])
         (fun v => S0.set id (VI v.d)) (fun _ => []) (fun _ => []) (fun v _ => ⟨by simp, osc_VO' kE _ hS⟩) ⟨u.d, t.i + 1⟩ ⟨hD, by simp, by simp only; omega, rfl⟩ rfl (fstep_sub ⟨Sub.int (by first | rfl | omega | (refine Int.sub_eq_zero.mp ?_; simp (disch := ((try unfold I64); omega)) only [wi64_id, td]; omega)), Sub.refl _, Sub.refl _, Sub.refl _, Sub.refl _, Sub.refl _, trivial⟩) ?_
       rintro v ⟨v1, v2, v3, v4⟩
       repeat' first | with_reducible refine fzD_ite (fun q => ?_) (fun q => ?_) | ((try conv => whnf); first
         | refine bs_d (fun q => ?_) (fun q => ?_) <;> (try simp (disch := ((try unfold I64); omega)) only [wi64_id, td] at q)
         | refine bs_n ?_
         | refine bs_i (fun q => ?_) (fun q => ?_)
         | refine ck (by first | rfl | simp) rfl (less _ _) ?_
         | refine cq (less _ _) ?_
         | refine pK_i (iaD_vecN (k := v.i) (by first | rfl | omega | (refine Int.sub_eq_zero.mp ?_; simp (disch := ((try unfold I64); omega)) only [wi64_id, td]; omega)) (by omega)) ?_
         | refine pK_i (iaD_vecN (k := v.i - 1) (by first | rfl | omega | (refine Int.sub_eq_zero.mp ?_; simp (disch := ((try unfold I64); omega)) only [wi64_id, td]; omega)) (by omega)) ?_
         | refine pK_i (ldV_VO kE hid v1 (by omega)) ?_
         | refine gk_stVO kE hid (List.length_set ..).symm rfl rfl (by simpa using v1) (by omega) rfl ?_
         | refine eqk rfl ?_
         | refine ffin _ rfl rfl hS (Sub.refl _) rfl ⟨?_, rfl, rfl⟩)
       all_goals try
         (refine fnextS (α := SI) ⟨swp v.d v.i (v.i - 1), v.i + 1⟩ ⟨by rw [size_swp']; exact v1, by simp only; omega, by simp only; omega, ?_⟩ (by simp only; omega) rfl (fstep_sub ⟨Sub.int (by first | rfl | omega | (refine Int.sub_eq_zero.mp ?_; simp (disch := ((try unfold I64); omega)) only [wi64_id, td]; omega)), Sub.refl _, Sub.refl _, Sub.refl _, Sub.refl _, Sub.refl _, trivial⟩)
          rw [← v4, shiftUp_step (j := v.i) (by omega) (ltt (by assumption))])
       all_goals
         have fv : v.i < b → ltInt v.d[v.i]! v.d[v.i - 1]! = false := fun h => by first | (exfalso; omega) | exact ltf (by assumption)
         rw [shiftUp_stop fv] at v4
         refine fnextS (α := SJ) ⟨v.d, t.i, s.j + 1⟩ ⟨v1, by simp only; omega, by simp only; omega, by simp only; omega, ?_⟩ (by simp only; omega) rfl (fstep_sub ⟨Sub.refl _, Sub.int (by first | rfl | omega | (refine Int.sub_eq_zero.mp ?_; simp (disch := ((try unfold I64); omega)) only [wi64_id, td]; omega)), Sub.refl _, Sub.refl _, Sub.refl _, trivial⟩)
         exact hst _ (by rw [if_pos (by omega), ← v4]))
  all_goals
    have hd2 : (if t.i - a ≥ 2 then Sort.shiftDown ltInt (t.i - 1) (swp s.d t.i (t.i - 1)) else swp s.d t.i (t.i - 1)) = swp s.d t.i (t.i - 1) := by rw [if_neg (by omega)]
    have hD : (swp s.d t.i (t.i - 1)).size = n := by rw [size_swp']; exact h1
  all_goals
    have hst : ∀ D', (if b - t.i ≥ 2 then shiftUp ltInt b (t.i + 1) (swp s.d t.i (t.i - 1)) else (swp s.d t.i (t.i - 1))) = D' → partialIns ltInt a b (5 - (s.j + 1)) t.i D' = Sort.partialInsertionSort ltInt d a b := fun D' h => by
      have := partialIns_of (lt := ltInt) (a := a) (s := 5 - (s.j + 1)) k4 hd2 h
      rw [if_neg (by omega), if_neg (by omega), show 5 - (s.j + 1) + 1 = 5 - s.j from by omega] at this
      rw [← this, h5]
  all_goals try
    (refine fnextS (α := SJ) ⟨swp s.d t.i (t.i - 1), t.i, s.j + 1⟩ ⟨hD, by simp only; omega, by simp only; omega, by simp only; omega, ?_⟩ (by simp only; omega) rfl (fstep_sub ⟨Sub.refl _, Sub.int (by first | rfl | omega | (refine Int.sub_eq_zero.mp ?_; simp (disch := ((try unfold I64); omega)) only [wi64_id, td]; omega)), Sub.refl _, Sub.refl _, Sub.refl _, trivial⟩)
     exact hst _ (by rw [if_neg (by omega)]))
  all_goals
    refine floopS (α := SI) rfl (fun v => v.d.size = n ∧ t.i < v.i ∧ v.i ≤ b ∧ shiftUp ltInt b v.i v.d = shiftUp ltInt b (t.i + 1) (swp s.d t.i (t.i - 1))) (fun v => b - v.i) (fun v => [(10, .d (.int .i64 v.i)), (7, .d (.int .i64 t.i)), (8, .d (.int .i64 s.j)), (0, .d (vec id n)), (1, .d (.int .i64 a)), (2, .d (.int .i64 b))])
      (fun v => S0.set id (VI v.d)) (fun _ => []) (fun _ => []) (fun v _ => ⟨by simp, osc_VO' kE _ hS⟩) ⟨swp s.d t.i (t.i - 1), t.i + 1⟩ ⟨hD, by simp, by simp only; omega, rfl⟩ rfl (fstep_sub ⟨Sub.int (by first | rfl | omega | (refine Int.sub_eq_zero.mp ?_; simp (disch := ((try unfold I64); omega)) only [wi64_id, td]; omega)), Sub.refl _, Sub.refl _, Sub.refl _, Sub.refl _, Sub.refl _, trivial⟩) ?_
    rintro v ⟨v1, v2, v3, v4⟩
    repeat' first | with_reducible refine fzD_ite (fun q => ?_) (fun q => ?_) | ((try conv => whnf); first
      | refine bs_d (fun q => ?_) (fun q => ?_) <;> (try simp (disch := ((try unfold I64); omega)) only [wi64_id, td] at q)
      | refine bs_n ?_
      | refine bs_i (fun q => ?_) (fun q => ?_)
      | refine ck (by first | rfl | simp) rfl (less _ _) ?_
      | refine cq (less _ _) ?_
      | refine pK_i (iaD_vecN (k := v.i) (by first | rfl | omega | (refine Int.sub_eq_zero.mp ?_; simp (disch := ((try unfold I64); omega)) only [wi64_id, td]; omega)) (by omega)) ?_
      | refine pK_i (iaD_vecN (k := v.i - 1) (by first | rfl | omega | (refine Int.sub_eq_zero.mp ?_; simp (disch := ((try unfold I64); omega)) only [wi64_id, td]; omega)) (by omega)) ?_
      | refine pK_i (ldV_VO kE hid v1 (by omega)) ?_
      | refine gk_stVO kE hid (List.length_set ..).symm rfl rfl (by simpa using v1) (by omega) rfl ?_
      | refine eqk rfl ?_
      | refine ffin _ rfl rfl hS (Sub.refl _) rfl ⟨?_, rfl, rfl⟩)
    all_goals try
      (refine fnextS (α := SI) ⟨swp v.d v.i (v.i - 1), v.i + 1⟩ ⟨by rw [size_swp']; exact v1, by simp only; omega, by simp only; omega, ?_⟩ (by simp only; omega) rfl (fstep_sub ⟨Sub.int (by first | rfl | omega | (refine Int.sub_eq_zero.mp ?_; simp (disch := ((try unfold I64); omega)) only [wi64_id, td]; omega)), Sub.refl _, Sub.refl _, Sub.refl _, Sub.refl _, Sub.refl _, trivial⟩)
       rw [← v4, shiftUp_step (j := v.i) (by omega) (ltt (by assumption))])
    all_goals
      have fv : v.i < b → ltInt v.d[v.i]! v.d[v.i - 1]! = false := fun h => by first | (exfalso; omega) | exact ltf (by assumption)
      rw [shiftUp_stop fv] at v4
      refine fnextS (α := SJ) ⟨v.d, t.i, s.j + 1⟩ ⟨v1, by simp only; omega, by simp only; omega, by simp only; omega, ?_⟩ (by simp only; omega) rfl (fstep_sub ⟨Sub.refl _, Sub.int (by first | rfl | omega | (refine Int.sub_eq_zero.mp ?_; simp (disch := ((try unfold I64); omega)) only [wi64_id, td]; omega)), Sub.refl _, Sub.refl _, Sub.refl _, trivial⟩)
      exact hst _ (by rw [if_pos (by omega), ← v4])
end Go.KL.Ythaoejicodhgaaa

/- slices.Sort: pdqsort -/
set_option linter.unusedVariables false
set_option linter.unusedSimpArgs false
set_option linter.unusedSectionVars false
set_option maxRecDepth 4000
namespace Go.KL.Ythaoejicodhgaaa
open Go Go.KL Go.RowKit Go.Proofs Go.Sort

theorem c94 : cFun E0.P 94 = some ⟨134, [], .seq (.rg [⟨some 8, none, .mv (.k (.bool true))⟩]) (.seq (.rg [⟨some 9, none, .mv (.k (.bool true))⟩]) (.block 0 (.loop (.block 1 (.seq (.rg [⟨some 19, none, .mv (.t 2)⟩, ⟨some 20, none, .mv (.t 1)⟩, ⟨some 21, none, .bin .sub .leaf (.t 19) (.t 20)⟩, ⟨some 10, none, .mv (.t 21)⟩]) (.seq (.seq (.rg [⟨some 22, none, .mv (.t 10)⟩, ⟨some 23, none, .bin .leq .leaf (.t 22) (.k (.int .i64 12))⟩]) (.cond (.t 23) (.seq (.rg [⟨some 24, none, .mv (.t 0)⟩, ⟨some 25, none, .mv (.t 1)⟩, ⟨some 26, none, .mv (.t 2)⟩, ⟨some 27, none, .call 124 [.t 24, .t 25, .t 26]⟩]) .ret) .skip)) (.seq (.seq (.rg [⟨some 28, none, .mv (.t 3)⟩, ⟨some 29, none, .bin .eql .leaf (.t 28) (.k (.int .i64 0))⟩]) (.cond (.t 29) (.seq (.rg [⟨some 30, none, .mv (.t 0)⟩, ⟨some 31, none, .mv (.t 1)⟩, ⟨some 32, none, .mv (.t 2)⟩, ⟨some 33, none, .call 125 [.t 30, .t 31, .t 32]⟩]) .ret) .skip)) (.seq (.seq (.rg [⟨some 34, none, .mv (.t 8)⟩, ⟨some 35, none, .un .not (.t 34)⟩]) (.cond (.t 35) (.seq (.rg [⟨some 36, none, .mv (.t 0)⟩, ⟨some 37, none, .mv (.t 1)⟩, ⟨some 38, none, .mv (.t 2)⟩, ⟨some 39, none, .call 126 [.t 36, .t 37, .t 38]⟩]) (.rg [⟨some 40, none, .mv (.t 3)⟩, ⟨some 41, none, .bin .sub .leaf (.t 40) (.k (.int .i64 1))⟩, ⟨some 3, none, .mv (.t 41)⟩])) .skip)) (.seq (.rg [⟨some 43, none, .mv (.t 0)⟩, ⟨some 44, none, .mv (.t 1)⟩, ⟨some 45, none, .mv (.t 2)⟩, ⟨some 46, none, .call 127 [.t 43, .t 44, .t 45]⟩, ⟨some 42, none, .mv (.t 46)⟩, ⟨some 47, none, .ext 0 (.t 42)⟩, ⟨some 48, none, .ext 1 (.t 42)⟩, ⟨some 11, none, .mv (.t 47)⟩, ⟨some 12, none, .mv (.t 48)⟩]) (.seq (.seq (.rg [⟨some 49, none, .mv (.t 12)⟩, ⟨some 50, none, .bin .eql .leaf (.t 49) (.k (.int .i64 2))⟩]) (.cond (.t 50) (.seq (.rg [⟨some 51, none, .mv (.t 0)⟩, ⟨some 52, none, .mv (.t 1)⟩, ⟨some 53, none, .mv (.t 2)⟩, ⟨some 54, none, .call 128 [.t 51, .t 52, .t 53]⟩]) (.seq (.rg [⟨some 55, none, .mv (.t 2)⟩, ⟨some 56, none, .bin .sub .leaf (.t 55) (.k (.int .i64 1))⟩, ⟨some 57, none, .mv (.t 11)⟩, ⟨some 58, none, .mv (.t 1)⟩, ⟨some 59, none, .bin .sub .leaf (.t 57) (.t 58)⟩, ⟨some 60, none, .bin .sub .leaf (.t 56) (.t 59)⟩, ⟨some 11, none, .mv (.t 60)⟩]) (.rg [⟨some 12, none, .mv (.k (.int .i64 1))⟩]))) .skip)) (.seq (.seq (.rg [⟨some 61, none, .mv (.t 8)⟩, ⟨some 62, none, .mv (.t 61)⟩, ⟨some 63, some (62, true), .mv (.t 9)⟩, ⟨some 64, none, .pick (.t 62) (.t 63) (.k (.bool false))⟩, ⟨some 65, none, .mv (.t 64)⟩, ⟨some 66, some (65, true), .mv (.t 12)⟩, ⟨some 67, some (65, true), .bin .eql .leaf (.t 66) (.k (.int .i64 1))⟩, ⟨some 68, none, .pick (.t 65) (.t 67) (.k (.bool false))⟩]) (.cond (.t 68) (.seq (.rg [⟨some 69, none, .mv (.t 0)⟩, ⟨some 70, none, .mv (.t 1)⟩, ⟨some 71, none, .mv (.t 2)⟩, ⟨some 72, none, .call 129 [.t 69, .t 70, .t 71]⟩]) (.cond (.t 72) .ret .skip)) .skip)) (.seq (.seq (.rd [(⟨some 73, none, .mv (.t 1)⟩, none), (⟨some 74, none, .bin .gtr .leaf (.t 73) (.k (.int .i64 0))⟩, none), (⟨some 75, none, .mv (.t 74)⟩, none), (⟨some 76, some (75, true), .mv (.t 0)⟩, none), (⟨some 77, some (75, true), .mv (.t 1)⟩, none), (⟨some 78, some (75, true), .bin .sub .leaf (.t 77) (.k (.int .i64 1))⟩, none), (⟨some 79, some (75, true), .ia 1 (.t 76) (.t 78)⟩, none), (⟨some 80, some (75, true), .ld 1 false (.t 79)⟩, none), (⟨some 81, some (75, true), .mv (.t 0)⟩, none), (⟨some 82, some (75, true), .mv (.t 11)⟩, none), (⟨some 83, some (75, true), .ia 1 (.t 81) (.t 82)⟩, none), (⟨some 84, some (75, true), .ld 1 false (.t 83)⟩, none), (⟨some 85, some (75, true), .call 130 [.t 80, .t 84]⟩, some []), (⟨some 86, some (75, true), .un .not (.t 85)⟩, none), (⟨some 87, none, .pick (.t 75) (.t 86) (.k (.bool false))⟩, none)]) (.cond (.t 87) (.seq (.rg [⟨some 88, none, .mv (.t 0)⟩, ⟨some 89, none, .mv (.t 1)⟩, ⟨some 90, none, .mv (.t 2)⟩, ⟨some 91, none, .mv (.t 11)⟩, ⟨some 92, none, .call 131 [.t 88, .t 89, .t 90, .t 91]⟩, ⟨some 13, none, .mv (.t 92)⟩]) (.seq (.rg [⟨some 93, none, .mv (.t 13)⟩, ⟨some 1, none, .mv (.t 93)⟩]) (.exit 1))) .skip)) (.seq (.rg [⟨some 95, none, .mv (.t 0)⟩, ⟨some 96, none, .mv (.t 1)⟩, ⟨some 97, none, .mv (.t 2)⟩, ⟨some 98, none, .mv (.t 11)⟩, ⟨some 99, none, .call 132 [.t 95, .t 96, .t 97, .t 98]⟩, ⟨some 94, none, .mv (.t 99)⟩, ⟨some 100, none, .ext 0 (.t 94)⟩, ⟨some 101, none, .ext 1 (.t 94)⟩, ⟨some 14, none, .mv (.t 100)⟩, ⟨some 15, none, .mv (.t 101)⟩]) (.seq (.rg [⟨some 102, none, .mv (.t 15)⟩, ⟨some 9, none, .mv (.t 102)⟩]) (.seq (.rg [⟨some 103, none, .mv (.t 14)⟩, ⟨some 104, none, .mv (.t 1)⟩, ⟨some 105, none, .bin .sub .leaf (.t 103) (.t 104)⟩, ⟨some 106, none, .mv (.t 2)⟩, ⟨some 107, none, .mv (.t 14)⟩, ⟨some 108, none, .bin .sub .leaf (.t 106) (.t 107)⟩, ⟨some 16, none, .mv (.t 105)⟩, ⟨some 17, none, .mv (.t 108)⟩]) (.seq (.rg [⟨some 109, none, .mv (.t 10)⟩, ⟨some 110, none, .bin .quo .leaf (.t 109) (.k (.int .i64 8))⟩, ⟨some 18, none, .mv (.t 110)⟩]) (.seq (.rg [⟨some 111, none, .mv (.t 16)⟩, ⟨some 112, none, .mv (.t 17)⟩, ⟨some 113, none, .bin .lss .leaf (.t 111) (.t 112)⟩]) (.cond (.t 113) (.seq (.rg [⟨some 114, none, .mv (.t 16)⟩, ⟨some 115, none, .mv (.t 18)⟩, ⟨some 116, none, .bin .geq .leaf (.t 114) (.t 115)⟩, ⟨some 8, none, .mv (.t 116)⟩]) (.seq (.rg [⟨some 117, none, .mv (.t 0)⟩, ⟨some 118, none, .mv (.t 1)⟩, ⟨some 119, none, .mv (.t 14)⟩, ⟨some 120, none, .mv (.t 3)⟩, ⟨some 121, none, .call 94 [.t 117, .t 118, .t 119, .t 120]⟩]) (.rg [⟨some 122, none, .mv (.t 14)⟩, ⟨some 123, none, .bin .add .leaf (.t 122) (.k (.int .i64 1))⟩, ⟨some 1, none, .mv (.t 123)⟩]))) (.seq (.rg [⟨some 124, none, .mv (.t 17)⟩, ⟨some 125, none, .mv (.t 18)⟩, ⟨some 126, none, .bin .geq .leaf (.t 124) (.t 125)⟩, ⟨some 8, none, .mv (.t 126)⟩]) (.seq (.rg [⟨some 127, none, .mv (.t 0)⟩, ⟨some 128, none, .mv (.t 14)⟩, ⟨some 129, none, .bin .add .leaf (.t 128) (.k (.int .i64 1))⟩, ⟨some 130, none, .mv (.t 2)⟩, ⟨some 131, none, .mv (.t 3)⟩, ⟨some 132, none, .call 94 [.t 127, .t 129, .t 130, .t 131]⟩]) (.rg [⟨some 133, none, .mv (.t 14)⟩, ⟨some 2, none, .mv (.t 133)⟩])))))))))))))))))))))⟩ := by kernel_rfl

/-- a call turns the row d into one that is as G says, together with what it answers -/
def Makes (f : FuncId) (id n : Nat) (ds : List D) (d : Array Int) (G : D → Array Int → Prop) : Prop :=
  ∀ (S0 : List O) (tk : Tks), id < S0.length → ACalls E0 f (vec id n :: ds) (S0.set id (VI d)) tk (fun r' S' tk' => ∃ d', G r' d' ∧ S' = S0.set id (VI d') ∧ tk' = tk)
theorem Turns.makes {f : FuncId} {id n : Nat} {ds : List D} {d d' : Array Int} {r : D} {G : D → Array Int → Prop} (h : Turns f id n ds d r d') (hG : G r d') : Makes f id n ds d G :=
  fun S0 tk hid => (h S0 tk hid).mono fun r' S' tk' ⟨h1, h2, h3⟩ => ⟨d', h1 ▸ hG, h2, h3⟩

def Sorts (a b : Nat) (d d' : Array Int) : Prop := PermIn a b d d' ∧ SortedIn ltInt a b d'

theorem mIns (id n : Nat) (d : Array Int) (a b : Nat) (hd : d.size = n) (hab : a ≤ b) (hb : b ≤ n) (hn : n < 4611686018427387904) :
    Makes 124 id n [.int .i64 a, .int .i64 b] d (fun r d' => r = .tup [] ∧ Sorts a b d d') :=
  (insertionSort id n d a b hd hab hb hn).makes ⟨rfl, insertionSort_holds swo_ltInt d a b hab (by omega)⟩
theorem mHeap (id n : Nat) (d : Array Int) (a b : Nat) (hd : d.size = n) (hab : a ≤ b) (hb : b ≤ n) (hn : n < 4611686018427387904) :
    Makes 125 id n [.int .i64 a, .int .i64 b] d (fun r d' => r = .tup [] ∧ Sorts a b d d') :=
  (heapSort id n d a b hd hab hb hn).makes ⟨rfl, heapSort_holds swo_ltInt d a b hab (by omega)⟩
theorem mRev (id n : Nat) (d : Array Int) (a b : Nat) (hd : d.size = n) (hab : a < b) (hb : b ≤ n) (hn : n < 4611686018427387904) :
    Makes 128 id n [.int .i64 a, .int .i64 b] d (fun r d' => r = .tup [] ∧ PermIn a b d d') :=
  (reverseRange id n d a b hd hab hb hn).makes ⟨rfl, reverseRange_holds d a b (by omega) (by omega)⟩
theorem mPiv (id n : Nat) (d : Array Int) (a b : Nat) (hd : d.size = n) (hab : a < b) (hb : b ≤ n) (hn : n < 4611686018427387904) :
    Makes 127 id n [.int .i64 a, .int .i64 b] d (fun r d' => ∃ (p : Nat) (h : Int), r = .tup [.int .i64 p, .int .i64 h] ∧ d' = d ∧ a ≤ p ∧ p < b) :=
  (choosePivot id n d a b hd hab hb hn).makes ⟨_, _, rfl, rfl, choosePivot_holds ltInt d a b hab⟩
theorem mPar (id n : Nat) (d : Array Int) (a b : Nat) (hd : d.size = n) (hab : a < b) (hb : b ≤ n) (hn : n < 4611686018427387904) (hB : Below ltInt a b d) :
    Makes 129 id n [.int .i64 a, .int .i64 b] d (fun r d' => ∃ ok : Bool, r = .bool ok ∧ PermIn a b d d' ∧ (ok = true → SortedIn ltInt a b d')) :=
  (partialInsertionSort id n d a b hd hab hb hn).makes ⟨_, rfl, partialInsertionSort_holds swo_ltInt d a b hab (by omega) hB⟩
theorem mEq (id n : Nat) (d : Array Int) (a b p : Nat) (hd : d.size = n) (ha0 : 0 < a) (hap : a ≤ p) (hpb : p < b) (hb : b ≤ n) (hn : n < 4611686018427387904) (hB : Below ltInt a b d) (hnl : ltInt d[a - 1]! d[p]! = false) :
    Makes 131 id n [.int .i64 a, .int .i64 b, .int .i64 p] d (fun r d' => ∃ mid : Nat, r = .int .i64 mid ∧ a < mid ∧ mid ≤ b ∧ d'.size = n ∧ Below ltInt mid b d' ∧ ∀ R, PermIn mid b d' R → SortedIn ltInt mid b R → PermIn a b d R ∧ SortedIn ltInt a b R) := by
  obtain ⟨h1, h2, h3, h4, h5⟩ := round_eq swo_ltInt (partitionEqual_holds ltInt) ha0 hap hpb (by omega) hB hnl (mid := (Sort.partitionEqual ltInt d a b p).1) (d4 := (Sort.partitionEqual ltInt d a b p).2) rfl
  exact (partitionEqual id n d a b p hd hap hpb hb hn).makes ⟨_, rfl, h1, h2, by rw [h3, hd], h4, h5⟩
theorem mPart (id n : Nat) (d : Array Int) (a b p : Nat) (hd : d.size = n) (hap : a ≤ p) (hpb : p < b) (hb : b ≤ n) (hn : n < 4611686018427387904) (hB : Below ltInt a b d) :
    Makes 132 id n [.int .i64 a, .int .i64 b, .int .i64 p] d (fun r d' => ∃ (mid : Nat) (ap : Bool), r = .tup [.int .i64 mid, .bool ap] ∧ a ≤ mid ∧ mid < b ∧ d'.size = n ∧ Below ltInt a mid d' ∧ Below ltInt (mid + 1) b d' ∧
      (∀ L, PermIn a mid d' L → SortedIn ltInt a mid L → Below ltInt (mid + 1) b L ∧ ∀ R, PermIn (mid + 1) b L R → SortedIn ltInt (mid + 1) b R → PermIn a b d R ∧ SortedIn ltInt a b R) ∧
      (∀ L, PermIn (mid + 1) b d' L → SortedIn ltInt (mid + 1) b L → Below ltInt a mid L ∧ ∀ R, PermIn a mid L R → SortedIn ltInt a mid R → PermIn a b d R ∧ SortedIn ltInt a b R)) := by
  obtain ⟨h1, h2, h3, h4, h5, h6, h7⟩ := round_part swo_ltInt (partition_holds ltInt) hap hpb (by omega) hB (mid := (Sort.partition ltInt d a b p).1) (ap := (Sort.partition ltInt d a b p).2.1) (d4 := (Sort.partition ltInt d a b p).2.2) rfl
  exact (partition id n d a b p hd hap hpb hb hn).makes ⟨_, _, rfl, h1, h2, by rw [h3, hd], h4, h5, h6, h7⟩

structure SP where
  d : Array Int
  a : Nat
  b : Nat
  l : Nat
  w : Bool
  v : Bool
structure SR where
  d : Array Int
  w : Bool
  v : Bool
structure SQ where
  d : Array Int
  l : Nat
  p : Nat
  h : Int

set_option maxHeartbeats 8000000 in
theorem pdqsort_of (id n : Nat) (hn : n < 4611686018427387904) (hbrk : ∀ (d : Array Int) (a b : Nat), d.size = n → a < b → b ≤ n → Makes 126 id n [.int .i64 a, .int .i64 b] d (fun r d' => r = .tup [] ∧ PermIn a b d d')) :
    ∀ (k : Nat) (d : Array Int) (a b l : Nat), d.size = n → a ≤ b → b ≤ n → b - a ≤ k → l < 4611686018427387904 → Below ltInt a b d →
      Makes 94 id n [.int .i64 a, .int .i64 b, .int .i64 l] d (fun r d' => r = .tup [] ∧ Sorts a b d d') := by
  intro k
  induction k using Nat.strongRecOn with
  | _ k ih =>
  intro d a b l hd hab hb hk hl hBe S0 tk hid
  refine ACalls.fgoC c94 rfl [9, 13, 17] rfl fun hS => ?_
  repeat' first | with_reducible refine fzD_ite (fun q => ?_) (fun q => ?_) | ((try conv => whnf); first
    | refine bs_d (fun q => ?_) (fun q => ?_)
    | refine bs_n ?_
    | refine bs_i (fun q => ?_) (fun q => ?_)
    | refine eqk rfl ?_
    | refine ffin _ rfl rfl hS (Sub.refl _) rfl ⟨?_, rfl, rfl⟩)
  refine floopS (α := SP) rfl (fun s => s.d.size = n ∧ s.a ≤ s.b ∧ s.b ≤ n ∧ s.b - s.a ≤ k ∧ s.l < 4611686018427387904 ∧ Below ltInt s.a s.b s.d ∧ ∀ R, PermIn s.a s.b s.d R → SortedIn ltInt s.a s.b R → Sorts a b d R) (fun s => s.b - s.a) (fun s => [(0, .d (vec id n)), (1, .d (.int .i64 s.a)), (2, .d (.int .i64 s.b)), (3, .d (.int .i64 s.l)), (8, .d (.bool s.w)), (9, .d (.bool s.v))])
    (fun s => S0.set id (VI s.d)) (fun _ => []) (fun _ => []) (fun s _ => ⟨by simp, osc_VO' kE _ hS⟩) ⟨d, a, b, l, true, true⟩ ⟨hd, hab, hb, hk, hl, hBe, fun R h1 h2 => ⟨h1, h2⟩⟩ rfl (fstep_sub ⟨Sub.refl _, Sub.refl _, Sub.refl _, Sub.refl _, Sub.refl _, Sub.refl _, trivial⟩) ?_
  rintro s ⟨h1, h2, h3, h4, h5, h6, hcl⟩
  repeat' first | with_reducible refine fzD_ite (fun q => ?_) (fun q => ?_) | ((try conv => whnf); first
    | refine bs_d (fun q => ?_) (fun q => ?_) <;> (try simp (disch := ((try unfold I64); omega)) only [wi64_id, td] at q)
    | refine bs_n ?_
    | refine bs_i (fun q => ?_) (fun q => ?_)
    | (refine ckVE hid (List.length_set ..).symm rfl (mIns id n s.d s.a s.b h1 h2 h3 hn) (SubL.refl _) (fun r dq hG => ?_); obtain ⟨rfl, hq⟩ := hG; have HF := hq)
    | (refine ckVE hid (List.length_set ..).symm rfl (mHeap id n s.d s.a s.b h1 h2 h3 hn) (SubL.refl _) (fun r dq hG => ?_); obtain ⟨rfl, hq⟩ := hG; have HF := hq)
    | refine ffin _ (by simp) rfl (osc_VO' kE _ hS) (Sub.refl _) rfl ⟨_, ⟨rfl, ?_⟩, rfl, rfl⟩
    | refine eqk rfl ?_
    | refine ffin _ rfl rfl hS (Sub.refl _) rfl ⟨?_, rfl, rfl⟩)
  · exact hcl _ HF.1 HF.2
  · exact hcl _ HF.1 HF.2
  refine fcut (α := SQ) rfl (fun u => u.d.size = n ∧ u.l < 4611686018427387904 ∧ Below ltInt s.a s.b u.d ∧ PermIn s.a s.b s.d u.d) (fun u => [(3, .d (.int .i64 u.l)), (0, .d (vec id n)), (1, .d (.int .i64 s.a)), (2, .d (.int .i64 s.b)), (8, .d (.bool s.w)), (9, .d (.bool s.v)), (10, .d (.int .i64 ((s.b : Int) - s.a)))]) (fun u => S0.set id (VI u.d)) (fun _ => []) (fun _ => []) (fun u _ => ⟨by simp, osc_VO' kE _ hS⟩) ?_ ?_
  · have HZ := h1
    have HB := h6
    have HP := permIn_refl s.d s.a s.b
    repeat' first | with_reducible refine fzD_ite (fun q => ?_) (fun q => ?_) | ((try conv => whnf); first
      | refine bs_t (by assumption) ?_
      | refine bs_f (by assumption) ?_
      | refine bs_d (fun q => ?_) (fun q => ?_) <;> (try simp (disch := ((try unfold I64); omega)) only [wi64_id, td] at q)
      | refine bs_n ?_
      | refine bs_i (fun q => ?_) (fun q => ?_)
      | (refine ckVE hid (List.length_set ..).symm rfl (hbrk s.d s.a s.b h1 (by omega) h3) (SubL.refl _) (fun r dq hG => ?_); obtain ⟨rfl, hq⟩ := hG; have HZ := hq.1.trans HZ; have HB := HB.perm (by omega) hq; have HP := permIn_trans _ _ _ _ _ HP hq)
      | refine eqk rfl ?_
      | refine ffin _ rfl rfl hS (Sub.refl _) rfl ⟨?_, rfl, rfl⟩)
    · exact fcnext (α := SQ) ⟨_, s.l, 0, 0⟩ ⟨h1, h5, h6, HP⟩ rfl (fstep_sub ⟨Sub.refl _, Sub.refl _, Sub.refl _, Sub.refl _, Sub.of (by rw [q]; rfl), Sub.refl _, Sub.int (by first | rfl | omega | (refine Int.sub_eq_zero.mp ?_; simp (disch := ((try unfold I64); omega)) only [wi64_id, td]; omega)), trivial⟩)
    · exact fcnext (α := SQ) ⟨dq, s.l - 1, 0, 0⟩ ⟨HZ, by simp only; omega, HB, HP⟩ rfl (fstep_sub ⟨Sub.int (by first | rfl | omega | (refine Int.sub_eq_zero.mp ?_; simp (disch := ((try unfold I64); omega)) only [wi64_id, td]; omega)), Sub.refl _, Sub.refl _, Sub.refl _, Sub.of (by rw [q]; rfl), Sub.refl _, Sub.int (by first | rfl | omega | (refine Int.sub_eq_zero.mp ?_; simp (disch := ((try unfold I64); omega)) only [wi64_id, td]; omega)), trivial⟩)
  rintro t ⟨HZ, HL, HB, HP⟩
  have hlen : 12 < s.b - s.a := by omega
  repeat' first | with_reducible refine fzD_ite (fun q => ?_) (fun q => ?_) | ((try conv => whnf); first
    | refine bs_d (fun q => ?_) (fun q => ?_) <;> (try simp (disch := ((try unfold I64); omega)) only [wi64_id, td] at q)
    | refine bs_n ?_
    | refine bs_i (fun q => ?_) (fun q => ?_)
    | (refine ckVE hid (List.length_set ..).symm rfl (mPiv id n _ s.a s.b HZ (by omega) h3 hn) (SubL.refl _) (fun r dq hG => ?_); obtain ⟨p, h, rfl, rfl, p1, p2⟩ := hG; skip)
    | refine eqk rfl ?_
    | refine ffin _ rfl rfl hS (Sub.refl _) rfl ⟨?_, rfl, rfl⟩)
  refine fcut (α := SQ) rfl (fun u => u.d.size = n ∧ u.l < 4611686018427387904 ∧ Below ltInt s.a s.b u.d ∧ PermIn s.a s.b s.d u.d ∧ s.a ≤ u.p ∧ u.p < s.b) (fun u => [(3, .d (.int .i64 u.l)), (11, .d (.int .i64 u.p)), (12, .d (.int .i64 u.h)), (0, .d (vec id n)), (1, .d (.int .i64 s.a)), (2, .d (.int .i64 s.b)), (8, .d (.bool s.w)), (9, .d (.bool s.v)), (10, .d (.int .i64 ((s.b : Int) - s.a)))]) (fun u => S0.set id (VI u.d)) (fun _ => []) (fun _ => []) (fun u _ => ⟨by simp, osc_VO' kE _ hS⟩) ?_ ?_
  · skip
    repeat' first | with_reducible refine fzD_ite (fun q => ?_) (fun q => ?_) | ((try conv => whnf); first
      | refine bs_d (fun q => ?_) (fun q => ?_) <;> (try simp (disch := ((try unfold I64); omega)) only [wi64_id, td] at q)
      | refine bs_n ?_
      | refine bs_i (fun q => ?_) (fun q => ?_)
      | (refine ckVE hid (List.length_set ..).symm rfl (mRev id n _ s.a s.b HZ (by omega) h3 hn) (SubL.refl _) (fun r dq hG => ?_); obtain ⟨rfl, hq⟩ := hG; have HZ := hq.1.trans HZ; have HB := HB.perm (by omega) hq; have HP := permIn_trans _ _ _ _ _ HP hq)
      | refine eqk rfl ?_
      | refine ffin _ rfl rfl hS (Sub.refl _) rfl ⟨?_, rfl, rfl⟩)
    · exact fcnext (α := SQ) ⟨dq, t.l, s.b - 1 - (p - s.a), 1⟩ ⟨HZ, HL, HB, HP, by simp only; omega, by simp only; omega⟩ rfl (fstep_sub ⟨Sub.refl _, Sub.int (by first | rfl | omega | (refine Int.sub_eq_zero.mp ?_; simp (disch := ((try unfold I64); omega)) only [wi64_id, td]; omega)), Sub.refl _, Sub.refl _, Sub.refl _, Sub.refl _, Sub.refl _, Sub.refl _, Sub.refl _, trivial⟩)
    · exact fcnext (α := SQ) ⟨_, t.l, p, h⟩ ⟨HZ, HL, HB, HP, p1, p2⟩ rfl (fstep_sub ⟨Sub.refl _, Sub.refl _, Sub.refl _, Sub.refl _, Sub.refl _, Sub.refl _, Sub.refl _, Sub.refl _, Sub.refl _, trivial⟩)
  rintro u ⟨HZ, HL, HB, HP, p1, p2⟩
  refine fcut (α := SR) rfl (fun e => e.d.size = n ∧ Below ltInt s.a s.b e.d ∧ PermIn s.a s.b s.d e.d) (fun e => [(3, .d (.int .i64 u.l)), (11, .d (.int .i64 u.p)), (0, .d (vec id n)), (1, .d (.int .i64 s.a)), (2, .d (.int .i64 s.b)), (8, .d (.bool e.w)), (9, .d (.bool e.v)), (10, .d (.int .i64 ((s.b : Int) - s.a)))]) (fun e => S0.set id (VI e.d)) (fun _ => []) (fun _ => []) (fun e _ => ⟨by simp, osc_VO' kE _ hS⟩) ?_ ?_
  · skip
    repeat' first | with_reducible refine fzD_ite (fun q => ?_) (fun q => ?_) | ((try conv => whnf); first
      | refine bs_d (fun q => ?_) (fun q => ?_) <;> (try simp (disch := ((try unfold I64); omega)) only [wi64_id, td] at q)
      | refine bs_n ?_
      | refine bs_i (fun q => ?_) (fun q => ?_)
      | (refine ckVE hid (List.length_set ..).symm rfl (mPar id n _ s.a s.b HZ (by omega) h3 hn HB) (SubL.refl _) (fun r dq hG => ?_); obtain ⟨ok, rfl, hq, hs⟩ := hG; have HZ := hq.1.trans HZ; have HB := HB.perm (by omega) hq; have HP := permIn_trans _ _ _ _ _ HP hq)
      | refine ffin _ (by simp) rfl (osc_VO' kE _ hS) (Sub.refl _) rfl ⟨_, ⟨rfl, hcl _ HP (hs (by assumption))⟩, rfl, rfl⟩
      | refine eqk rfl ?_
      | refine ffin _ rfl rfl hS (Sub.refl _) rfl ⟨?_, rfl, rfl⟩)
    all_goals exact fcnext (α := SR) ⟨_, _, _⟩ ⟨HZ, HB, HP⟩ rfl (fstep_sub ⟨Sub.refl _, Sub.refl _, Sub.refl _, Sub.refl _, Sub.refl _, Sub.refl _, Sub.refl _, Sub.refl _, trivial⟩)
  rintro e ⟨HZ, HB, HP⟩
  repeat' first | with_reducible refine fzD_ite (fun q => ?_) (fun q => ?_) | ((try conv => whnf); first
    | refine bs_d (fun q => ?_) (fun q => ?_) <;> (try simp (disch := ((try unfold I64); omega)) only [wi64_id, td] at q)
    | refine bs_n ?_
    | refine bs_i (fun q => ?_) (fun q => ?_)
    | refine ck (by first | rfl | simp) rfl (less _ _) ?_
    | refine cq (less _ _) ?_
    | refine pK_i (iaD_vecN (k := s.a - 1) (by first | rfl | omega | (refine Int.sub_eq_zero.mp ?_; simp (disch := ((try unfold I64); omega)) only [wi64_id, td]; omega)) (by omega)) ?_
    | refine pK_i (iaD_vecN (k := u.p) (by first | rfl | omega | (refine Int.sub_eq_zero.mp ?_; simp (disch := ((try unfold I64); omega)) only [wi64_id, td]; omega)) (by omega)) ?_
    | refine pK_i (ldV_VO kE hid HZ (by omega)) ?_
    | (refine ckVE hid (List.length_set ..).symm rfl (mEq id n _ s.a s.b u.p HZ (by omega) p1 p2 h3 hn HB (ltf (by omega))) (SubL.refl _) (fun r dq hG => ?_); obtain ⟨mid, rfl, m1, m2, HZ, HB, cc⟩ := hG; skip)
    | (refine ckVE hid (List.length_set ..).symm rfl (mPart id n _ s.a s.b u.p HZ p1 p2 h3 hn HB) (SubL.refl _) (fun r dq hG => ?_); obtain ⟨mid, ap, rfl, m1, m2, HZ, B1, B2, c1, c2⟩ := hG; skip)
    | (refine ckVE hid (List.length_set ..).symm rfl (ih (mid - s.a) (by omega) _ s.a mid u.l HZ m1 (by omega) (Nat.le_refl _) (by omega) B1) (SubL.refl _) (fun r dr hG => ?_); obtain ⟨rfl, hq⟩ := hG; have HZ := hq.1.1.trans HZ; have cc := (c1 _ hq.1 hq.2).2; have HB := (c1 _ hq.1 hq.2).1)
    | (refine ckVE hid (List.length_set ..).symm rfl (ih (s.b - (mid + 1)) (by omega) _ (mid + 1) s.b u.l HZ (by omega) (by omega) (Nat.le_refl _) (by omega) B2) (.cons (Sub.refl _) (.cons (Sub.int (by first | rfl | omega | (refine Int.sub_eq_zero.mp ?_; simp (disch := ((try unfold I64); omega)) only [wi64_id, td]; omega))) (SubL.refl _))) (fun r dr hG => ?_); obtain ⟨rfl, hq⟩ := hG; have HZ := hq.1.1.trans HZ; have cc := (c2 _ hq.1 hq.2).2; have HB := (c2 _ hq.1 hq.2).1)
    | refine eqk rfl ?_
    | refine ffin _ rfl rfl hS (Sub.refl _) rfl ⟨?_, rfl, rfl⟩)
  all_goals first
    | exact fnextS (α := SP) ⟨dr, mid + 1, s.b, u.l, _, _⟩ ⟨HZ, by simp only; omega, h3, by simp only; omega, HL, HB, fun R r1 r2 => hcl R (permIn_trans _ _ _ _ _ HP (cc R r1 r2).1) (cc R r1 r2).2⟩ (by simp only; omega) rfl (fstep_sub ⟨Sub.refl _, Sub.int (by first | rfl | omega | (refine Int.sub_eq_zero.mp ?_; simp (disch := ((try unfold I64); omega)) only [wi64_id, td]; omega)), Sub.refl _, Sub.refl _, Sub.refl _, Sub.refl _, trivial⟩)
    | exact fnextS (α := SP) ⟨dr, s.a, mid, u.l, _, _⟩ ⟨HZ, m1, by simp only; omega, by simp only; omega, HL, HB, fun R r1 r2 => hcl R (permIn_trans _ _ _ _ _ HP (cc R r1 r2).1) (cc R r1 r2).2⟩ (by simp only; omega) rfl (fstep_sub ⟨Sub.refl _, Sub.refl _, Sub.refl _, Sub.refl _, Sub.refl _, Sub.refl _, trivial⟩)
    | exact fnextS (α := SP) ⟨dq, mid, s.b, u.l, _, _⟩ ⟨HZ, m2, h3, by simp only; omega, HL, HB, fun R r1 r2 => hcl R (permIn_trans _ _ _ _ _ HP (cc R r1 r2).1) (cc R r1 r2).2⟩ (by simp only; omega) rfl (fstep_sub ⟨Sub.refl _, Sub.refl _, Sub.refl _, Sub.refl _, Sub.refl _, Sub.refl _, trivial⟩)
end Go.KL.Ythaoejicodhgaaa
