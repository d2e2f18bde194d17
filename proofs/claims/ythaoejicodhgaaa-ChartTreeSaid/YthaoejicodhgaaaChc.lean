/- charts: the document's list, looking up -/
import Derived.Test.YthaoejicodhgaaaChb
set_option linter.unusedVariables false
set_option linter.unusedSimpArgs false
set_option linter.unusedSectionVars false
set_option maxRecDepth 4000
namespace Go.KL.Ythaoejicodhgaaa
open Go Go.KL Go.RowKit Go.Proofs Go.Sort

theorem c19 : cFun E0.P 19 = some ⟨19, [(2, none)], .seq (.rg [⟨some 2, none, .mv (.k (.int .i64 0))⟩]) (.seq (.seq (.rg [⟨some 3, none, .mv (.t 0)⟩, ⟨some 4, none, .bin .eql .leaf (.t 3) (.k (.int .u8 1))⟩, ⟨some 5, none, .mv (.t 4)⟩, ⟨some 6, some (5, false), .mv (.t 0)⟩, ⟨some 7, some (5, false), .bin .eql .leaf (.t 6) (.k (.int .u8 4))⟩, ⟨some 8, none, .pick (.t 5) (.k (.bool true)) (.t 7)⟩]) (.cond (.t 8) (.seq (.rg [⟨some 2, none, .mv (.k (.int .i64 1))⟩]) .ret) .skip)) (.seq (.seq (.rg [⟨some 9, none, .mv (.t 0)⟩, ⟨some 10, none, .bin .eql .leaf (.t 9) (.k (.int .u8 2))⟩, ⟨some 11, none, .mv (.t 10)⟩, ⟨some 12, some (11, false), .mv (.t 0)⟩, ⟨some 13, some (11, false), .bin .eql .leaf (.t 12) (.k (.int .u8 3))⟩, ⟨some 14, none, .pick (.t 11) (.k (.bool true)) (.t 13)⟩, ⟨some 15, none, .mv (.t 14)⟩, ⟨some 16, some (15, false), .mv (.t 0)⟩, ⟨some 17, some (15, false), .bin .eql .leaf (.t 16) (.k (.int .u8 5))⟩, ⟨some 18, none, .pick (.t 15) (.k (.bool true)) (.t 17)⟩]) (.cond (.t 18) (.seq (.rg [⟨some 2, none, .mv (.k (.int .i64 (-1)))⟩]) .ret) .skip)) (.seq (.rg [⟨some 2, none, .mv (.k (.int .i64 0))⟩]) .ret)))⟩ := by kernel_rfl
theorem c52 : cFun E0.P 52 = some ⟨20, [(4, none)], .seq (.rg [⟨some 4, none, .mv (.k (.int .i64 0))⟩]) (.seq (.seq (.rg [⟨some 5, none, .mv (.k (.int .i64 0))⟩]) (.block 0 (.loop (.seq (.seq (.rg [⟨some 6, none, .mv (.t 5)⟩, ⟨some 7, none, .mv (.t 0)⟩, ⟨some 8, none, .len 1 (.t 7)⟩, ⟨some 9, none, .bin .lss .leaf (.t 6) (.t 8)⟩]) (.cond (.t 9) .skip (.exit 0))) (.seq (.block 1 (.seq (.rg [⟨some 12, none, .mv (.t 0)⟩, ⟨some 13, none, .mv (.t 5)⟩, ⟨some 14, none, .ia 5 (.t 12) (.t 13)⟩, ⟨some 15, none, .fa 0 (.t 14)⟩, ⟨some 16, none, .ld 1 false (.t 15)⟩, ⟨some 17, none, .mv (.t 1)⟩, ⟨some 18, none, .bin .eql .leaf (.t 16) (.t 17)⟩]) (.cond (.t 18) (.seq (.rg [⟨some 19, none, .mv (.t 5)⟩, ⟨some 4, none, .mv (.t 19)⟩]) .ret) .skip))) (.rg [⟨some 10, none, .mv (.t 5)⟩, ⟨some 11, none, .bin .add .leaf (.t 10) (.k (.int .i64 1))⟩, ⟨some 5, none, .mv (.t 11)⟩])))))) (.seq (.rg [⟨some 4, none, .mv (.k (.int .i64 (-1)))⟩]) .ret))⟩ := by kernel_rfl
theorem c53 : cFun E0.P 53 = some ⟨21, [(6, none)], .seq (.rg [⟨some 6, none, .mv (.k (.bool false))⟩]) (.seq (.block 0 (.loop (.seq (.seq (.rg [⟨some 7, none, .mv (.t 0)⟩, ⟨some 8, none, .mv (.t 1)⟩, ⟨some 9, none, .call 52 [.t 7, .t 8]⟩, ⟨some 10, none, .bin .geq .leaf (.t 9) (.k (.int .i64 0))⟩]) (.cond (.t 10) .skip (.exit 0))) (.block 1 (.seq (.seq (.rg [⟨some 11, none, .mv (.t 1)⟩, ⟨some 12, none, .mv (.t 2)⟩, ⟨some 13, none, .bin .eql .leaf (.t 11) (.t 12)⟩]) (.cond (.t 13) (.seq (.rg [⟨some 6, none, .mv (.k (.bool true))⟩]) .ret) .skip)) (.rg [⟨some 14, none, .mv (.t 0)⟩, ⟨some 15, none, .mv (.t 0)⟩, ⟨some 16, none, .mv (.t 1)⟩, ⟨some 17, none, .call 52 [.t 15, .t 16]⟩, ⟨some 18, none, .ia 5 (.t 14) (.t 17)⟩, ⟨some 19, none, .fa 1 (.t 18)⟩, ⟨some 20, none, .ld 1 false (.t 19)⟩, ⟨some 1, none, .mv (.t 20)⟩])))))) (.seq (.rg [⟨some 6, none, .mv (.k (.bool false))⟩]) .ret))⟩ := by kernel_rfl
theorem c54 : cFun E0.P 54 = some ⟨24, [(4, none)], .seq (.rg [⟨some 4, none, .mv (.k (.int .i64 0))⟩]) (.seq (.rg [⟨some 5, none, .mv (.k (.int .i64 0))⟩]) (.seq (.seq (.rg [⟨some 6, none, .mv (.k (.int .i64 0))⟩]) (.block 0 (.loop (.seq (.seq (.rg [⟨some 7, none, .mv (.t 6)⟩, ⟨some 8, none, .mv (.t 0)⟩, ⟨some 9, none, .len 1 (.t 8)⟩, ⟨some 10, none, .bin .lss .leaf (.t 7) (.t 9)⟩]) (.cond (.t 10) .skip (.exit 0))) (.seq (.block 1 (.seq (.rg [⟨some 13, none, .mv (.t 0)⟩, ⟨some 14, none, .mv (.t 1)⟩, ⟨some 15, none, .mv (.t 0)⟩, ⟨some 16, none, .mv (.t 6)⟩, ⟨some 17, none, .ia 5 (.t 15) (.t 16)⟩, ⟨some 18, none, .fa 0 (.t 17)⟩, ⟨some 19, none, .ld 1 false (.t 18)⟩, ⟨some 20, none, .call 53 [.t 13, .t 14, .t 19]⟩]) (.cond (.t 20) (.rg [⟨some 21, none, .mv (.t 5)⟩, ⟨some 22, none, .bin .add .leaf (.t 21) (.k (.int .i64 1))⟩, ⟨some 5, none, .mv (.t 22)⟩]) .skip))) (.rg [⟨some 11, none, .mv (.t 6)⟩, ⟨some 12, none, .bin .add .leaf (.t 11) (.k (.int .i64 1))⟩, ⟨some 6, none, .mv (.t 12)⟩])))))) (.seq (.rg [⟨some 23, none, .mv (.t 5)⟩, ⟨some 4, none, .mv (.t 23)⟩]) .ret)))⟩ := by kernel_rfl
theorem c58 : cFun E0.P 58 = some ⟨30, [(4, none)], .seq (.rg [⟨some 4, none, .mv (.k .nilsl)⟩]) (.seq (.rg [⟨some 5, none, .mv (.k .nilsl)⟩]) (.seq (.seq (.rg [⟨some 6, none, .mv (.k (.int .i64 0))⟩]) (.block 0 (.loop (.seq (.seq (.rg [⟨some 7, none, .mv (.t 6)⟩, ⟨some 8, none, .mv (.t 0)⟩, ⟨some 9, none, .len 1 (.t 8)⟩, ⟨some 10, none, .bin .lss .leaf (.t 7) (.t 9)⟩]) (.cond (.t 10) .skip (.exit 0))) (.seq (.block 1 (.seq (.rg [⟨some 13, none, .mv (.t 0)⟩, ⟨some 14, none, .mv (.t 0)⟩, ⟨some 15, none, .mv (.t 6)⟩, ⟨some 16, none, .ia 5 (.t 14) (.t 15)⟩, ⟨some 17, none, .fa 0 (.t 16)⟩, ⟨some 18, none, .ld 1 false (.t 17)⟩, ⟨some 19, none, .mv (.t 1)⟩, ⟨some 20, none, .call 53 [.t 13, .t 18, .t 19]⟩]) (.cond (.t 20) (.rg [⟨some 21, none, .mv (.t 5)⟩, ⟨some 22, none, .mv (.t 0)⟩, ⟨some 23, none, .mv (.t 6)⟩, ⟨some 24, none, .ia 5 (.t 22) (.t 23)⟩, ⟨some 25, none, .fa 0 (.t 24)⟩, ⟨some 26, none, .ld 1 false (.t 25)⟩, ⟨some 27, none, .buildS 1 1 [.int .i64 0] [(0, .t 26)] 3⟩, ⟨some 28, none, .app 41 3 1 8 [.int .i64 0] (.t 21) (.t 27)⟩, ⟨some 5, none, .mv (.t 28)⟩]) .skip))) (.rg [⟨some 11, none, .mv (.t 6)⟩, ⟨some 12, none, .bin .add .leaf (.t 11) (.k (.int .i64 1))⟩, ⟨some 6, none, .mv (.t 12)⟩])))))) (.seq (.rg [⟨some 29, none, .mv (.t 5)⟩, ⟨some 4, none, .mv (.t 29)⟩]) .ret)))⟩ := by kernel_rfl
theorem c59 : cFun E0.P 59 = some ⟨10, [(4, none)], .seq (.rg [⟨some 4, none, .mv (.k (.bool false))⟩]) (.seq (.rg [⟨some 5, none, .mv (.t 0)⟩, ⟨some 6, none, .mv (.t 1)⟩, ⟨some 7, none, .call 58 [.t 5, .t 6]⟩, ⟨some 8, none, .len 1 (.t 7)⟩, ⟨some 9, none, .bin .eql .leaf (.t 8) (.k (.int .i64 1))⟩, ⟨some 4, none, .mv (.t 9)⟩]) .ret)⟩ := by kernel_rfl

theorem side2 (c : Int) : Pure 19 [.int .u8 c] (.int .i64 (sideF c)) := by
  intro S tk
  unfold sideF
  refine ACalls.fgo c19 rfl fun hS => ?_
  repeat' first | with_reducible refine fzD_ite (fun q => ?_) (fun q => ?_) | ((try conv => whnf); first
    | refine bs_d (fun q => ?_) (fun q => ?_)
    | refine bs_n ?_
    | refine bs_i (fun q => ?_) (fun q => ?_)
    | refine eqk rfl ?_
    | refine ffin _ rfl rfl hS (Sub.refl _) rfl ⟨?_, rfl, rfl⟩)
  all_goals first
    | (rw [if_pos (by omega)]; rfl)
    | (rw [if_neg (by omega), if_pos (by omega)]; rfl)
    | (rw [if_neg (by omega), if_neg (by omega)]; rfl)

/-- an account of the list, by its code -/
def look : List Ac → Int → Option Ac
  | [], _ => none
  | a :: r, k => if a.code = k then some a else look r k
def atI : List Ac → Int → Int
  | [], _ => -1
  | a :: r, k => if a.code = k then 0 else if atI r k < 0 then -1 else atI r k + 1
theorem atI_cases : ∀ (l : List Ac) (k : Int), (look l k = none ∧ atI l k = -1) ∨ ∃ i a, i < l.length ∧ atI l k = (i : Nat) ∧ l[i]? = some a ∧ look l k = some a ∧ a.code = k
  | [], k => .inl ⟨rfl, rfl⟩
  | a :: r, k => by
    by_cases h : a.code = k
    · exact .inr ⟨0, a, by simp, by rw [atI, if_pos h]; rfl, rfl, by rw [look, if_pos h], h⟩
    · rw [look, if_neg h, atI, if_neg h]
      rcases atI_cases r k with ⟨h1, h2⟩ | ⟨i, x, h1, h2, h3, h4, h5⟩
      · exact .inl ⟨h1, by rw [h2]; rfl⟩
      · exact .inr ⟨i + 1, x, by simp; omega, by rw [h2, if_neg (by omega)]; omega, by simpa using h3, h4, h5⟩
def atFrom (l : List Ac) (k : Int) (i : Nat) : Int := if atI (l.drop i) k < 0 then -1 else atI (l.drop i) k + i
theorem atFrom_0 (l : List Ac) (k : Int) : atFrom l k 0 = atI l k := by
  unfold atFrom
  rcases atI_cases l k with ⟨h1, h2⟩ | ⟨i, x, h1, h2, h3, h4, h5⟩
  · simp [h2]
  · simp [h2]
theorem atFrom_yes {l : List Ac} {k : Int} {i : Nat} (hi : i < l.length) (h : (l[i]!).code = k) : atFrom l k i = i := by
  unfold atFrom
  rw [List.drop_eq_getElem_cons hi, ← getElem!_pos l i hi, atI, if_pos h]; simp
theorem atFrom_no {l : List Ac} {k : Int} {i : Nat} (hi : i < l.length) (h : ¬ (l[i]!).code = k) : atFrom l k i = atFrom l k (i + 1) := by
  unfold atFrom
  rw [List.drop_eq_getElem_cons hi, ← getElem!_pos l i hi, atI, if_neg h]
  by_cases h2 : atI (l.drop (i + 1)) k < 0
  · rw [if_pos h2, if_pos h2]; rfl
  · rw [if_neg h2, if_neg h2, if_neg (by omega)]; omega
theorem atFrom_end {l : List Ac} {k : Int} {i : Nat} (hi : l.length ≤ i) : atFrom l k i = -1 := by
  unfold atFrom
  rw [List.drop_of_length_le hi]; rfl
theorem at_p (l : List Ac) (k : Int) (hl : l.length < 1000000) : Pure 52 [.sl (acsL l), .int .i64 k] (.int .i64 (atI l k)) := by
  intro S tk
  have la := acsL_len l
  refine ACalls.fgo c52 rfl fun hS => ?_
  repeat' first | with_reducible refine fzD_ite (fun q => ?_) (fun q => ?_) | ((try conv => whnf); first
    | refine bs_d (fun q => ?_) (fun q => ?_)
    | refine bs_n ?_
    | refine bs_i (fun q => ?_) (fun q => ?_)
    | refine eqk rfl ?_
    | refine ffin _ rfl rfl hS (Sub.refl _) rfl ⟨?_, rfl, rfl⟩)
  refine floop (α := Nat) rfl rfl hS (fun i => i ≤ l.length ∧ atI l k = atFrom l k i) (fun i => l.length - i) (fun i => [(5, .d (.int .i64 i)), (0, .d (.sl (acsL l))), (1, .d (.int .i64 k))]) (fun _ => []) (fun _ => []) 0 ⟨Nat.zero_le _, (atFrom_0 l k).symm⟩ (fstep_sub ⟨Sub.refl _, Sub.refl _, Sub.refl _, trivial⟩) ?_
  rintro i ⟨h1, h2⟩
  repeat' first | with_reducible refine fzD_ite (fun q => ?_) (fun q => ?_) | ((try conv => whnf); first
    | refine bs_d (fun q => ?_) (fun q => ?_) <;> (try simp (disch := ((try unfold I64); omega)) only [wi64_id, td] at q)
    | refine bs_n ?_
    | refine bs_i (fun q => ?_) (fun q => ?_)
    | refine pK_i (iaD_ac (i := i) (by first | rfl | omega | (refine Int.sub_eq_zero.mp ?_; simp (disch := ((try unfold I64); omega)) only [wi64_id, td]; omega)) (by omega)) ?_
    | refine eqk rfl ?_
    | refine ffin _ rfl rfl hS (Sub.refl _) rfl ⟨?_, rfl, rfl⟩)
  · rw [h2, atFrom_yes (by omega) (by assumption)]; rfl
  · conv => whnf
    refine fnext (α := Nat) (i + 1) ⟨by omega, by rw [h2, atFrom_no (by omega) (by assumption)]⟩ (by omega) (fstep_sub ⟨Sub.int (by rw [wi64_id]; omega; unfold I64; omega), Sub.refl _, Sub.refl _, trivial⟩)
  · rw [h2, atFrom_end (by omega)]; rfl
/-- so many steps up and no more -/
def ends (f : Int → Option Ac) (n : Nat) (c : Int) : Prop := f (climb f n c) = none ∧ ∀ i, i < n → (f (climb f i c)).isSome = true
def isA (f : Int → Option Ac) (n : Nat) (c u : Int) : Bool := (List.range n).any fun i => decide (climb f i c = u)
theorem isA_t {f : Int → Option Ac} {n : Nat} {c u : Int} {i : Nat} (hi : i < n) (h : climb f i c = u) : isA f n c u = true := List.any_eq_true.2 ⟨i, List.mem_range.2 hi, decide_eq_true h⟩
theorem isA_f {f : Int → Option Ac} {n : Nat} {c u : Int} (h : ∀ i, i < n → climb f i c ≠ u) : isA f n c u = false := by
  rw [isA, List.any_eq_false]
  intro i hi
  simpa using h i (List.mem_range.1 hi)
theorem climb_s (f : Int → Option Ac) (i : Nat) (k : Int) : climb f (i + 1) k = upF f (climb f i k) := by
  induction i generalizing k with
  | zero => rfl
  | succ i ih => rw [climb, ih]; rfl
set_option maxHeartbeats 1000000 in
theorem is_p (l : List Ac) (c u : Int) (n : Nat) (hl : l.length < 1000000) (he : ends (look l) n c) : Pure 53 [.sl (acsL l), .int .i64 c, .int .i64 u] (.bool (isA (look l) n c u)) := by
  intro S tk
  have la := acsL_len l
  refine ACalls.fgo c53 rfl fun hS => ?_
  repeat' first | with_reducible refine fzD_ite (fun q => ?_) (fun q => ?_) | ((try conv => whnf); first
    | refine bs_d (fun q => ?_) (fun q => ?_)
    | refine bs_n ?_
    | refine bs_i (fun q => ?_) (fun q => ?_)
    | refine eqk rfl ?_
    | refine ffin _ rfl rfl hS (Sub.refl _) rfl ⟨?_, rfl, rfl⟩)
  refine floop (α := Nat) rfl rfl hS (fun i => i ≤ n ∧ ∀ j, j < i → climb (look l) j c ≠ u) (fun i => n - i) (fun i => [(1, .d (.int .i64 (climb (look l) i c))), (0, .d (.sl (acsL l))), (2, .d (.int .i64 u))]) (fun _ => []) (fun _ => []) 0 ⟨Nat.zero_le _, fun j hj => absurd hj (by omega)⟩ (fstep_sub ⟨Sub.refl _, Sub.refl _, Sub.refl _, trivial⟩) ?_
  rintro i ⟨h1, h2⟩
  rcases atI_cases l (climb (look l) i c) with ⟨h3, h4⟩ | ⟨k, a, h3, h4, h5, h6, h7⟩
  · have e : i = n := Classical.byContradiction fun hne => by have := he.2 i (by omega); rw [h3] at this; cases this
    have ap := at_p l (climb (look l) i c) hl
    rw [h4] at ap
    repeat' first | with_reducible refine fzD_ite (fun q => ?_) (fun q => ?_) | ((try conv => whnf); first
      | refine bs_d (fun q => ?_) (fun q => ?_)
      | refine bs_n ?_
      | refine bs_i (fun q => ?_) (fun q => ?_)
      | refine ck (by first | rfl | simp) rfl (ap) ?_
      | refine cq (ap) ?_
      | refine eqk rfl ?_
      | refine ffin _ rfl rfl hS (Sub.refl _) rfl ⟨?_, rfl, rfl⟩)
    · rw [isA_f (by subst e; exact h2)]; rfl
  · have hlt : i < n := Classical.byContradiction fun hge => by
      have e : i = n := by omega
      subst e; rw [he.1] at h6; cases h6
    have e5 : l[k]! = a := by rw [getElem!_pos l k h3]; rw [List.getElem?_eq_getElem h3] at h5; exact Option.some.inj h5
    have ap := at_p l (climb (look l) i c) hl
    rw [h4] at ap
    repeat' first | with_reducible refine fzD_ite (fun q => ?_) (fun q => ?_) | ((try conv => whnf); first
      | refine bs_d (fun q => ?_) (fun q => ?_)
      | refine bs_n ?_
      | refine bs_i (fun q => ?_) (fun q => ?_)
      | refine ck (by first | rfl | simp) rfl (ap) ?_
      | refine cq (ap) ?_
      | refine pK_i (iaD_ac (i := k) rfl h3) ?_
      | refine eqk rfl ?_
      | refine ffin _ rfl rfl hS (Sub.refl _) rfl ⟨?_, rfl, rfl⟩)
    · rw [isA_t hlt (by assumption)]; rfl
    · conv => whnf
      refine fnext (α := Nat) (i + 1) ⟨by omega, fun j hj => ?_⟩ (by omega) (fstep_sub ⟨Sub.int ?_, Sub.refl _, Sub.refl _, trivial⟩)
      · by_cases hji : j = i
        · subst hji; assumption
        · exact h2 j (by omega)
      · rw [climb_s, upF, h6, e5]; rfl
def cntA (l : List Ac) (n : Nat) (c : Int) (r : List Ac) : Nat := (r.filter fun x => isA (look l) n c x.code).length
theorem cntA_snoc (l : List Ac) (n : Nat) (c : Int) {r : List Ac} {i : Nat} (hi : i < r.length) : cntA l n c (r.take (i + 1)) = cntA l n c (r.take i) + (if isA (look l) n c (r[i]!).code = true then 1 else 0) := by
  unfold cntA
  rw [take_snA hi, List.filter_append, List.length_append]
  by_cases h : isA (look l) n c (r[i]!).code = true
  · rw [List.filter_cons, if_pos h, if_pos h]; rfl
  · rw [List.filter_cons, if_neg h, if_neg h]; rfl
theorem depth_p (l : List Ac) (c : Int) (n : Nat) (hl : l.length < 1000000) (he : ends (look l) n c) : Pure 54 [.sl (acsL l), .int .i64 c] (.int .i64 (cntA l n c l)) := by
  intro S tk
  have la := acsL_len l
  refine ACalls.fgo c54 rfl fun hS => ?_
  repeat' first | with_reducible refine fzD_ite (fun q => ?_) (fun q => ?_) | ((try conv => whnf); first
    | refine bs_d (fun q => ?_) (fun q => ?_)
    | refine bs_n ?_
    | refine bs_i (fun q => ?_) (fun q => ?_)
    | refine eqk rfl ?_
    | refine ffin _ rfl rfl hS (Sub.refl _) rfl ⟨?_, rfl, rfl⟩)
  refine floop (α := Nat) rfl rfl hS (fun i => i ≤ l.length) (fun i => l.length - i) (fun i => [(6, .d (.int .i64 i)), (5, .d (.int .i64 (cntA l n c (l.take i)))), (0, .d (.sl (acsL l))), (1, .d (.int .i64 c))]) (fun _ => []) (fun _ => []) 0 (Nat.zero_le _) (fstep_sub ⟨Sub.refl _, Sub.refl _, Sub.refl _, Sub.refl _, trivial⟩) ?_
  intro i h1
  have cl : cntA l n c (l.take i) ≤ i := Nat.le_trans (List.length_filter_le ..) (List.length_take_le ..)
  have st := fun hi => cntA_snoc l n c (r := l) (i := i) hi
  repeat' first | with_reducible refine fzD_ite (fun q => ?_) (fun q => ?_) | ((try conv => whnf); first
    | refine bs_d (fun q => ?_) (fun q => ?_) <;> (try simp (disch := ((try unfold I64); omega)) only [wi64_id, td] at q)
    | refine bs_n ?_
    | refine bs_i (fun q => ?_) (fun q => ?_)
    | refine ck (by first | rfl | simp) rfl (is_p l _ _ n hl he) ?_
    | refine cq (is_p l _ _ n hl he) ?_
    | refine pK_i (iaD_ac (i := i) (by first | rfl | omega | (refine Int.sub_eq_zero.mp ?_; simp (disch := ((try unfold I64); omega)) only [wi64_id, td]; omega)) (by omega)) ?_
    | refine eqk rfl ?_
    | refine ffin _ rfl rfl hS (Sub.refl _) rfl ⟨?_, rfl, rfl⟩)
  · rename_i q
    rw [if_pos q] at st
    conv => whnf
    refine fnext (α := Nat) (i + 1) (by omega) (by omega) (fstep_sub ⟨Sub.int (by rw [wi64_id]; omega; unfold I64; omega), Sub.int (by rw [st (by omega), wi64_id]; omega; unfold I64; omega), Sub.refl _, Sub.refl _, trivial⟩)
  · rename_i q
    rw [if_neg (by rw [q]; simp)] at st
    conv => whnf
    refine fnext (α := Nat) (i + 1) (by omega) (by omega) (fstep_sub ⟨Sub.int (by rw [wi64_id]; omega; unfold I64; omega), Sub.int (by rw [st (by omega)]; omega), Sub.refl _, Sub.refl _, trivial⟩)
  · rw [List.take_of_length_le (by omega)]; rfl

/-- how deep -/
def depF (f : Int → Option Ac) : Nat → Int → Nat
  | 0, _ => 0
  | n + 1, k => if (f k).isSome = true then depF f n (upF f k) + 1 else 0
theorem ends_depF {f : Int → Option Ac} : ∀ {N : Nat} {k : Int}, f (climb f N k) = none → ends f (depF f N k) k
  | 0, k, h => ⟨h, fun i hi => absurd hi (Nat.not_lt_zero i)⟩
  | N + 1, k, h => by
    rw [depF]
    by_cases hk : (f k).isSome = true
    · rw [if_pos hk]
      have ih := ends_depF (N := N) (k := upF f k) h
      refine ⟨ih.1, fun i hi => ?_⟩
      match i with
      | 0 => exact hk
      | i + 1 => exact ih.2 i (by omega)
    · rw [if_neg hk]
      exact ⟨by simpa [climb] using hk, fun i hi => absurd hi (Nat.not_lt_zero i)⟩
theorem depF_le (f : Int → Option Ac) : ∀ (N : Nat) (k : Int), depF f N k ≤ N
  | 0, k => Nat.le_refl _
  | N + 1, k => by
    rw [depF]; split
    · have := depF_le f N (upF f k); omega
    · omega
def Low (f : Int → Option Ac) : Prop := ∀ k, f (climb f 8 k) = none
def dep (f : Int → Option Ac) (k : Int) : Nat := depF f 8 k
def isB (f : Int → Option Ac) (c u : Int) : Bool := isA f (dep f c) c u
theorem Low.ends {f : Int → Option Ac} (h : Low f) (k : Int) : ends f (dep f k) k := ends_depF (h k)
theorem is_b (l : List Ac) (hl : l.length < 1000000) (h : Low (look l)) (c u : Int) : Pure 53 [.sl (acsL l), .int .i64 c, .int .i64 u] (.bool (isB (look l) c u)) := is_p l c u _ hl (h.ends c)
def undL (l : List Ac) (c : Int) (r : List Ac) : List Int := (r.filter fun x => isB (look l) x.code c).map Ac.code
theorem undL_snoc (l : List Ac) (c : Int) {r : List Ac} {i : Nat} (hi : i < r.length) : undL l c (r.take (i + 1)) = undL l c (r.take i) ++ (if isB (look l) (r[i]!).code c = true then [(r[i]!).code] else []) := by
  unfold undL
  rw [take_snA hi, List.filter_append, List.map_append]
  by_cases h : isB (look l) (r[i]!).code c = true
  · rw [List.filter_cons, if_pos h, if_pos h]; rfl
  · rw [List.filter_cons, if_neg h, if_neg h]; rfl
set_option maxHeartbeats 1000000 in
theorem under_p (l : List Ac) (hl : l.length < 1000000) (h : Low (look l)) (c : Int) : Pure 58 [.sl (acsL l), .int .i64 c] (.sl (i64s (undL l c l))) := by
  intro S tk
  have la := acsL_len l
  refine ACalls.fgo c58 rfl fun hS => ?_
  repeat' first | with_reducible refine fzD_ite (fun q => ?_) (fun q => ?_) | ((try conv => whnf); first
    | refine bs_d (fun q => ?_) (fun q => ?_)
    | refine bs_n ?_
    | refine bs_i (fun q => ?_) (fun q => ?_)
    | refine eqk rfl ?_
    | refine ffin _ rfl rfl hS (Sub.refl _) rfl ⟨?_, rfl, rfl⟩)
  refine floop (α := Nat) rfl rfl hS (fun i => i ≤ l.length) (fun i => l.length - i) (fun i => [(6, .d (.int .i64 i)), (5, .d (.gsl (i64s (undL l c (l.take i))) tk.length)), (0, .d (.sl (acsL l))), (1, .d (.int .i64 c))]) (fun _ => []) (fun i => [((i64s (undL l c (l.take i))).length, 3, 1)]) 0 (Nat.zero_le _) (fstep_tok (t := 5) 3 1 (Or.inl rfl) ⟨Sub.refl _, Sub.refl _, Sub.refl _, Sub.refl _, trivial⟩) ?_
  intro i h1
  have cl : (i64s (undL l c (l.take i))).length ≤ i := by
    rw [i64s_len, undL, List.length_map]
    exact Nat.le_trans (List.length_filter_le ..) (List.length_take_le ..)
  have st := fun hi => undL_snoc l c (r := l) (i := i) hi
  repeat' first | with_reducible refine fzD_ite (fun q => ?_) (fun q => ?_) | ((try conv => whnf); first
    | refine bs_d (fun q => ?_) (fun q => ?_) <;> (try simp (disch := ((try unfold I64); omega)) only [wi64_id, td] at q)
    | refine bs_n ?_
    | refine bs_i (fun q => ?_) (fun q => ?_)
    | refine ck (by first | rfl | simp) rfl (is_b l hl h _ _) ?_
    | refine cq (is_b l hl h _ _) ?_
    | refine pK_i (iaD_ac (i := i) (by first | rfl | omega | (refine Int.sub_eq_zero.mp ?_; simp (disch := ((try unfold I64); omega)) only [wi64_id, td]; omega)) (by omega)) ?_
    | refine gk_app (t := 0) rfl rfl rfl rfl rfl (by simp) ⟨by simp [maxLen]; omega, by simp; omega⟩ ?_
    | refine ffin (.sl (i64s (undL l c (l.take i)))) rfl rfl hS (Sub.rd rfl) ?_ ⟨?_, rfl, rfl⟩
    | refine eqk rfl ?_
    | refine ffin _ rfl rfl hS (Sub.refl _) rfl ⟨?_, rfl, rfl⟩)
  · rename_i q
    rw [if_pos q] at st
    have e : i64s (undL l c (l.take (i + 1))) = i64s (undL l c (l.take i)) ++ [[.int .i64 (l[i]!).code]] := by rw [st (by omega), i64s, List.map_append]; rfl
    conv => whnf
    refine fnext (α := Nat) (i + 1) (by omega) (by omega) (fstep_K (TK' := [((i64s (undL l c (l.take (i + 1)))).length, 3, 1)]) ?_ ⟨Sub.int (by rw [wi64_id]; omega; unfold I64; omega), Sub.of ?_, Sub.refl _, Sub.refl _, trivial⟩)
    · rw [e]; rfl
    · rw [e]; rfl
  · rename_i q
    rw [if_neg (by rw [q]; simp), List.append_nil] at st
    conv => whnf
    refine fnext (α := Nat) (i + 1) (by omega) (by omega) (fstep_K (TK' := [((i64s (undL l c (l.take (i + 1)))).length, 3, 1)]) (by rw [st (by omega)]) ⟨Sub.int (by rw [wi64_id]; omega; unfold I64; omega), Sub.of (by rw [st (by omega)]; rfl), Sub.refl _, Sub.refl _, trivial⟩)
  · exact sc_i64s ..
  · rw [List.take_of_length_le (by omega)]
theorem leaf_p (l : List Ac) (hl : l.length < 1000000) (h : Low (look l)) (c : Int) : Pure 59 [.sl (acsL l), .int .i64 c] (.bool (decide ((undL l c l).length = 1))) := by
  intro S tk
  have hlen := i64s_len (undL l c l)
  refine ACalls.fgo c59 rfl fun hS => ?_
  repeat' first | with_reducible refine fzD_ite (fun q => ?_) (fun q => ?_) | ((try conv => whnf); first
    | refine bs_d (fun q => ?_) (fun q => ?_)
    | refine bs_n ?_
    | refine bs_i (fun q => ?_) (fun q => ?_)
    | refine ck (by first | rfl | simp) rfl (under_p l hl h c) ?_
    | refine cq (under_p l hl h c) ?_
    | refine eqk rfl ?_
    | refine ffin _ rfl rfl hS (Sub.refl _) rfl ⟨?_, rfl, rfl⟩)
  all_goals simp only [tupD, D.bool.injEq]
  all_goals symm
  all_goals first
    | exact decide_eq_true (by omega)
    | exact decide_eq_false (by omega)
/-- the list with one more, with one shut -/
def insA : List Ac → Ac → List Ac
  | [], a => [a]
  | x :: r, a => if x.code < a.code then x :: insA r a else a :: x :: r
def addR (q : List Ac) (n : Nat) (a : Ac) : List Ac := if addE (look q) n a = 0 then insA q a else q
def shR (q : List Ac) (c : Int) : List Ac := q.map fun y => if y.code = c then { y with sh := true } else y
def badR (q : List Ac) (c : Int) (y : Ac) : Bool := decide (y.code ≠ c) && (isB (look q) y.code c && !y.sh)
def shutRE (q : List Ac) (c : Int) : Int := match look q c with
  | none => 7
  | some x => if x.sh = true then 9 else if q.any (badR q c) = true then 9 else 0
end Go.KL.Ythaoejicodhgaaa

/- charts: what the document's list says, in plain words -/
set_option linter.unusedVariables false
set_option linter.unusedSimpArgs false
set_option linter.unusedSectionVars false
set_option maxRecDepth 4000
namespace Go.KL.Ythaoejicodhgaaa
open Go Go.KL Go.RowKit Go.Proofs Go.Sort

/-! ## climbing -/
section
variable {f : Int → Option Ac}
theorem climb_add (f : Int → Option Ac) : ∀ (i t : Nat) (k : Int), climb f (i + t) k = climb f t (climb f i k)
  | 0, t, k => by rw [Nat.zero_add]; rfl
  | i + 1, t, k => by rw [Nat.add_right_comm, climb, climb_add f i t, climb]
theorem ends_ne {n : Nat} {c : Int} (h : ends f n c) {i j : Nat} (hij : i < j) (hj : j < n) : climb f i c ≠ climb f j c := fun e => by
  have e2 : climb f (i + (n - j)) c = climb f n c := by rw [climb_add, e, ← climb_add]; congr 1; omega
  have := h.2 (i + (n - j)) (by omega)
  rw [e2, h.1] at this; cases this
theorem ends_eq {n m : Nat} {c : Int} (h : ends f n c) (h' : ends f m c) : n = m := by
  rcases Nat.lt_trichotomy n m with hlt | e | hlt
  · have := h'.2 n hlt; rw [h.1] at this; cases this
  · exact e
  · have := h.2 m hlt; rw [h'.1] at this; cases this
theorem past (h0 : f 0 = none) : ∀ (t : Nat) (k : Int), f k = none → f (climb f t k) = none
  | 0, k, h => h
  | t + 1, k, h => by
    rw [climb, upF, h]
    exact past h0 t 0 h0
theorem dep_pos (hl : Low f) {k : Int} (h : (f k).isSome = true) : 0 < dep f k := by
  have := (hl.ends k).1
  rcases Nat.eq_zero_or_pos (dep f k) with e | e
  · rw [e] at this; rw [show climb f 0 k = k from rfl] at this; rw [this] at h; cases h
  · exact e
theorem dep_none {k : Int} (h : f k = none) : dep f k = 0 := by rw [dep, depF, h]; rfl
theorem dep_up (hl : Low f) {k : Int} (h : (f k).isSome = true) : dep f k = dep f (upF f k) + 1 := by
  refine ends_eq (hl.ends k) ?_
  have h2 := hl.ends (upF f k)
  refine ⟨h2.1, fun i hi => ?_⟩
  match i with
  | 0 => exact h
  | i + 1 => exact h2.2 i (by omega)
theorem dep_climb (hl : Low f) : ∀ (i : Nat) (k : Int), i ≤ dep f k → dep f k = dep f (climb f i k) + i
  | 0, k, _ => rfl
  | i + 1, k, h => by
    have hk : (f k).isSome = true := (hl.ends k).2 0 (by omega)
    have e := dep_up hl hk
    have := dep_climb hl i (upF f k) (by omega)
    rw [climb]; omega
theorem isB_iff {k c : Int} : isB f k c = true ↔ ∃ i, i < dep f k ∧ climb f i k = c := by
  rw [isB, isA, List.any_eq_true]
  constructor
  · rintro ⟨i, h1, h2⟩; exact ⟨i, List.mem_range.1 h1, of_decide_eq_true h2⟩
  · rintro ⟨i, h1, h2⟩; exact ⟨i, List.mem_range.2 h1, decide_eq_true h2⟩
theorem isB_self (hl : Low f) {c : Int} (h : (f c).isSome = true) : isB f c c = true := isB_iff.2 ⟨0, dep_pos hl h, rfl⟩
theorem isB_some (hl : Low f) {k c : Int} (h : isB f k c = true) : (f k).isSome = true ∧ (f c).isSome = true := by
  obtain ⟨i, h1, h2⟩ := isB_iff.1 h
  exact ⟨(hl.ends k).2 0 (by omega), by rw [← h2]; exact (hl.ends k).2 i h1⟩
theorem isB_up (hl : Low f) {k c : Int} (h : isB f k c = true) (hne : k ≠ c) : isB f (upF f k) c = true := by
  obtain ⟨i, h1, h2⟩ := isB_iff.1 h
  have e := dep_up hl (isB_some hl h).1
  match i with
  | 0 => exact absurd h2 hne
  | i + 1 => exact isB_iff.2 ⟨i, by omega, h2⟩

/-! ## those under one -/
variable {L : List Int}
theorem deep_ok (hl : Low f) (hL : keysOf f L) : ∀ (n : Nat) (c : Int), 9 ≤ dep f c + n → deep f L n c
  | 0, c, h => by have := depF_le f 8 c; unfold dep at h; omega
  | n + 1, c, h => fun k hk hu => by
    have e := dep_up hl ((hL.2 k).1 hk)
    rw [hu] at e
    exact deep_ok hl hL n k (by omega)
theorem mem_pre (hl : Low f) (hL : keysOf f L) : ∀ (n : Nat) (c : Int), (f c).isSome = true → 9 ≤ dep f c + n → ∀ k, k ∈ pre f L n c ↔ isB f k c = true
  | 0, c, hc, h, k => by have := depF_le f 8 c; unfold dep at h; omega
  | n + 1, c, hc, h, k => by
    rw [pre, List.mem_cons, List.mem_flatMap]
    constructor
    · rintro (rfl | ⟨ch, h1, h2⟩)
      · exact isB_self hl hc
      · split at h2
        · rename_i hu
          have hch := (hL.2 ch).1 h1
          have e := dep_up hl hch
          rw [hu] at e
          obtain ⟨i, k1, k2⟩ := isB_iff.1 ((mem_pre hl hL n ch hch (by omega) k).1 h2)
          have e2 : climb f (i + 1) k = c := by rw [climb_s, k2, hu]
          refine isB_iff.2 ⟨i + 1, Classical.byContradiction fun hge => ?_, e2⟩
          have e3 : i + 1 = dep f k := by omega
          have := (hl.ends k).1
          rw [← e3, e2] at this
          rw [this] at hc; cases hc
        · cases h2
    · intro hb
      obtain ⟨i, k1, k2⟩ := isB_iff.1 hb
      match i with
      | 0 => exact .inl k2
      | i + 1 =>
        have hch : (f (climb f i k)).isSome = true := (hl.ends k).2 i (by omega)
        have hu : upF f (climb f i k) = c := by rw [← climb_s]; exact k2
        have e := dep_up hl hch
        rw [hu] at e
        refine .inr ⟨climb f i k, (hL.2 _).2 hch, ?_⟩
        rw [if_pos hu]
        exact (mem_pre hl hL n _ hch (by omega) k).2 (isB_iff.2 ⟨i, by omega, rfl⟩)
theorem nodup_pre (hl : Low f) (hL : keysOf f L) : ∀ (n : Nat) (c : Int), (f c).isSome = true → 9 ≤ dep f c + n → (pre f L n c).Nodup
  | 0, c, hc, h => by have := depF_le f 8 c; unfold dep at h; omega
  | n + 1, c, hc, h => by
    have sub : ∀ ch, ch ∈ L → ∀ x, x ∈ (if upF f ch = c then pre f L n ch else []) → isB f x ch = true ∧ dep f ch = dep f c + 1 := fun ch h1 x hx => by
      split at hx
      · rename_i hu
        have hch := (hL.2 ch).1 h1
        have e := dep_up hl hch
        rw [hu] at e
        exact ⟨(mem_pre hl hL n ch hch (by omega) x).1 hx, e⟩
      · cases hx
    have at_dep : ∀ {x ch : Int}, isB f x ch = true → ∃ i, climb f i x = ch ∧ dep f x = dep f ch + i := fun {x ch} hb => by
      obtain ⟨i, k1, k2⟩ := isB_iff.1 hb
      exact ⟨i, k2, by rw [← k2]; exact dep_climb hl i x (by omega)⟩
    rw [pre, List.nodup_cons, List.mem_flatMap]
    refine ⟨?_, ?_⟩
    · rintro ⟨ch, h1, h2⟩
      obtain ⟨hb, e⟩ := sub ch h1 c h2
      obtain ⟨i, _, e2⟩ := at_dep hb
      omega
    · rw [List.nodup_iff_pairwise_ne, List.pairwise_flatMap]
      refine ⟨fun ch h1 => ?_, hL.1.imp_of_mem ?_⟩
      · split
        · rename_i hu
          have hch := (hL.2 ch).1 h1
          have e := dep_up hl hch
          rw [hu] at e
          exact nodup_pre hl hL n ch hch (by omega)
        · exact List.Pairwise.nil
      · rintro c1 c2 m1 m2 hlt x hx y hy rfl
        obtain ⟨b1, e1⟩ := sub c1 m1 x hx
        obtain ⟨b2, e2⟩ := sub c2 m2 x hy
        obtain ⟨i1, k1, g1⟩ := at_dep b1
        obtain ⟨i2, k2, g2⟩ := at_dep b2
        have : i1 = i2 := by omega
        subst this
        omega
end

/-! ## the list -/
structure OkQ (q : List Ac) : Prop where
  rise : (q.map Ac.code).Pairwise (· < ·)
  pos : ∀ x ∈ q, 1 ≤ x.code
  cl : ∀ x ∈ q, x.up = 0 ∨ (look q x.up).isSome = true
  low : Low (look q)
theorem look_mem {q : List Ac} {k : Int} {a : Ac} (h : look q k = some a) : a ∈ q ∧ a.code = k := by
  induction q with
  | nil => cases h
  | cons x r ih =>
    rw [look] at h
    split at h
    · rename_i e; cases h; exact ⟨by simp, e⟩
    · obtain ⟨h1, h2⟩ := ih h; exact ⟨by simp [h1], h2⟩
theorem look_some {q : List Ac} {k : Int} : (look q k).isSome = true ↔ k ∈ q.map Ac.code := by
  induction q with
  | nil => simp [look]
  | cons x r ih =>
    rw [look, List.map_cons, List.mem_cons]
    split
    · rename_i e; simp [e]
    · rename_i e; rw [ih]
      constructor
      · exact .inr
      · rintro (h | h)
        · exact absurd h.symm e
        · exact h
theorem look_of {q : List Ac} (h : (q.map Ac.code).Pairwise (· < ·)) {a : Ac} (ha : a ∈ q) : look q a.code = some a := by
  induction q with
  | nil => cases ha
  | cons x r ih =>
    rw [List.map_cons, List.pairwise_cons] at h
    rw [look]
    rcases List.mem_cons.1 ha with rfl | ha
    · rw [if_pos rfl]
    · have := h.1 a.code (List.mem_map_of_mem ha)
      rw [if_neg (by omega)]
      exact ih h.2 ha
section
variable {q : List Ac}
theorem OkQ.keys (h : OkQ q) : keysOf (look q) (q.map Ac.code) := ⟨h.rise, fun k => look_some.symm⟩
theorem OkQ.zero (h : OkQ q) : look q 0 = none := by
  cases e : look q 0 with
  | none => rfl
  | some a =>
    obtain ⟨h1, h2⟩ := look_mem e
    have := h.pos a h1
    omega
theorem OkQ.all (h : OkQ q) : allL (look q) (q.map Ac.code) = q := by
  rw [allL, List.map_map]
  have : ∀ a ∈ q, ((fun k => (look q k).getD noAc) ∘ Ac.code) a = a := fun a ha => by simp [look_of h.rise ha]
  rw [List.map_congr_left this, List.map_id'']
  exact fun _ => rfl
theorem OkQ.clF (h : OkQ q) {k : Int} {x : Ac} (hx : look q k = some x) : x.up = 0 ∨ (look q x.up).isSome = true := h.cl x (look_mem hx).1
theorem OkQ.nd (h : OkQ q) : (q.map Ac.code).Nodup := h.rise.imp fun h => by omega
theorem OkQ.und (h : OkQ q) (hl : q.length < 1000000) (c : Int) : UnderOf (look q) (q.map Ac.code) c (undL q c q) := by
  have mem : ∀ k, k ∈ undL q c q ↔ isB (look q) k c = true := fun k => by
    rw [undL, List.mem_map]
    constructor
    · rintro ⟨x, hx, rfl⟩; exact (List.mem_filter.1 hx).2
    · intro hb
      obtain ⟨x, hx⟩ := Option.isSome_iff_exists.1 (isB_some h.low hb).1
      obtain ⟨h1, rfl⟩ := look_mem hx
      exact ⟨x, List.mem_filter.2 ⟨h1, hb⟩, rfl⟩
  have rise : (undL q c q).Pairwise (· < ·) := h.rise.sublist ((List.filter_sublist).map _)
  refine ⟨fun hn => ?_, fun hn => ?_⟩
  · refine List.eq_nil_iff_forall_not_mem.2 fun k hk => ?_
    have := (isB_some h.low ((mem k).1 hk)).2
    rw [hn] at this; cases this
  · have hc : (look q c).isSome = true := by
      cases e : look q c with
      | none => exact absurd e hn
      | some a => rfl
    have m2 := mem_pre h.low h.keys 9 c hc (by omega)
    have nd := nodup_pre h.low h.keys 9 c hc (by omega)
    have hp : (pre (look q) (q.map Ac.code) 9 c).Perm (undL q c q) := (List.perm_ext_iff_of_nodup nd (rise.imp fun h => by omega)).2 fun k => by rw [m2, mem]
    refine ⟨9, deep_ok h.low h.keys 9 c (by omega), ?_, nd, rise, fun k => by rw [m2, mem]⟩
    rw [hp.length_eq, undL, List.length_map]
    exact Nat.lt_of_le_of_lt (List.length_filter_le ..) hl
theorem OkQ.cnt (h : OkQ q) {n : Nat} {c : Int} (he : ends (look q) n c) : cntA q n c q = n := by
  have hp : ((q.filter fun x => isA (look q) n c x.code).map Ac.code).Perm ((List.range n).map fun i => climb (look q) i c) := by
    refine (List.perm_ext_iff_of_nodup (h.nd.sublist ((List.filter_sublist).map _)) ?_).2 fun k => ?_
    · rw [List.nodup_iff_pairwise_ne, List.pairwise_map]
      refine List.pairwise_lt_range.imp_of_mem fun {i j} hi hj hij => ends_ne he hij (List.mem_range.1 hj)
    · rw [List.mem_map, List.mem_map]
      constructor
      · rintro ⟨x, hx, rfl⟩
        obtain ⟨i, h1, h2⟩ := List.any_eq_true.1 (List.mem_filter.1 hx).2
        exact ⟨i, h1, of_decide_eq_true h2⟩
      · rintro ⟨i, h1, rfl⟩
        obtain ⟨x, hx⟩ := Option.isSome_iff_exists.1 (he.2 i (List.mem_range.1 h1))
        obtain ⟨h3, h4⟩ := look_mem hx
        exact ⟨x, List.mem_filter.2 ⟨h3, isA_t (List.mem_range.1 h1) h4.symm⟩, h4⟩
  have := hp.length_eq
  rw [List.length_map, List.length_map, List.length_range] at this
  exact this
end
end Go.KL.Ythaoejicodhgaaa

/- charts: the document's list, adding and shutting -/
set_option linter.unusedVariables false
set_option linter.unusedSimpArgs false
set_option linter.unusedSectionVars false
set_option maxRecDepth 4000
namespace Go.KL.Ythaoejicodhgaaa
open Go Go.KL Go.RowKit Go.Proofs Go.Sort

theorem c15 : cFun E0.P 15 = some ⟨109, [(4, none), (5, none)], .seq (.rg [⟨some 3, none, .box (.t 1) 27⟩, ⟨some 4, none, .mv (.k .nilsl)⟩, ⟨some 5, none, .mv (.k (.int .i64 0))⟩]) (.seq (.seq (.rg [⟨some 9, none, .fa 0 (.t 3)⟩, ⟨some 10, none, .ld 1 false (.t 9)⟩, ⟨some 11, none, .bin .lss .leaf (.t 10) (.k (.int .i64 1))⟩, ⟨some 12, none, .mv (.t 11)⟩, ⟨some 13, some (12, false), .fa 0 (.t 3)⟩, ⟨some 14, some (12, false), .ld 1 false (.t 13)⟩, ⟨some 15, some (12, false), .bin .gtr .leaf (.t 14) (.k (.int .i64 9999))⟩, ⟨some 16, none, .pick (.t 12) (.k (.bool true)) (.t 15)⟩, ⟨some 17, none, .mv (.t 16)⟩, ⟨some 18, some (17, false), .fa 2 (.t 3)⟩, ⟨some 19, some (17, false), .ld 1 false (.t 18)⟩, ⟨some 20, some (17, false), .call 19 [.t 19]⟩, ⟨some 21, some (17, false), .bin .eql .leaf (.t 20) (.k (.int .i64 0))⟩, ⟨some 22, none, .pick (.t 17) (.k (.bool true)) (.t 21)⟩, ⟨some 23, none, .mv (.t 22)⟩, ⟨some 24, some (23, false), .fa 3 (.t 3)⟩, ⟨some 25, some (23, false), .ld 1 false (.t 24)⟩, ⟨some 26, some (23, false), .len 0 (.t 25)⟩, ⟨some 27, some (23, false), .bin .lss .leaf (.t 26) (.k (.int .i64 1))⟩, ⟨some 28, none, .pick (.t 23) (.k (.bool true)) (.t 27)⟩, ⟨some 29, none, .mv (.t 28)⟩, ⟨some 30, some (29, false), .fa 3 (.t 3)⟩, ⟨some 31, some (29, false), .ld 1 false (.t 30)⟩, ⟨some 32, some (29, false), .len 0 (.t 31)⟩, ⟨some 33, some (29, false), .bin .gtr .leaf (.t 32) (.k (.int .i64 60))⟩, ⟨some 34, none, .pick (.t 29) (.k (.bool true)) (.t 33)⟩, ⟨some 35, none, .mv (.t 34)⟩, ⟨some 36, some (35, false), .fa 4 (.t 3)⟩, ⟨some 37, some (35, false), .ld 1 false (.t 36)⟩, ⟨some 38, none, .pick (.t 35) (.k (.bool true)) (.t 37)⟩]) (.cond (.t 38) (.seq (.rg [⟨some 39, none, .mv (.t 0)⟩, ⟨some 4, none, .mv (.t 39)⟩, ⟨some 5, none, .mv (.k (.int .i64 2))⟩]) .ret) .skip)) (.seq (.seq (.rg [⟨some 40, none, .mv (.t 0)⟩, ⟨some 41, none, .fa 0 (.t 3)⟩, ⟨some 42, none, .ld 1 false (.t 41)⟩, ⟨some 43, none, .call 52 [.t 40, .t 42]⟩, ⟨some 44, none, .bin .geq .leaf (.t 43) (.k (.int .i64 0))⟩]) (.cond (.t 44) (.seq (.rg [⟨some 45, none, .mv (.t 0)⟩, ⟨some 4, none, .mv (.t 45)⟩, ⟨some 5, none, .mv (.k (.int .i64 8))⟩]) .ret) .skip)) (.seq (.seq (.rg [⟨some 46, none, .fa 1 (.t 3)⟩, ⟨some 47, none, .ld 1 false (.t 46)⟩, ⟨some 48, none, .bin .neq .leaf (.t 47) (.k (.int .i64 0))⟩]) (.cond (.t 48) (.seq (.rg [⟨some 49, none, .mv (.t 0)⟩, ⟨some 50, none, .fa 1 (.t 3)⟩, ⟨some 51, none, .ld 1 false (.t 50)⟩, ⟨some 52, none, .call 52 [.t 49, .t 51]⟩, ⟨some 6, none, .mv (.t 52)⟩]) (.seq (.seq (.rg [⟨some 53, none, .mv (.t 6)⟩, ⟨some 54, none, .bin .lss .leaf (.t 53) (.k (.int .i64 0))⟩]) (.cond (.t 54) (.seq (.rg [⟨some 55, none, .mv (.t 0)⟩, ⟨some 4, none, .mv (.t 55)⟩, ⟨some 5, none, .mv (.k (.int .i64 7))⟩]) .ret) .skip)) (.seq (.rd [(⟨some 56, none, .mv (.t 0)⟩, none), (⟨some 57, none, .mv (.t 6)⟩, none), (⟨some 58, none, .ia 5 (.t 56) (.t 57)⟩, none), (⟨some 59, none, .fa 4 (.t 58)⟩, none), (⟨some 60, none, .ld 1 false (.t 59)⟩, none), (⟨some 61, none, .mv (.t 60)⟩, none), (⟨some 62, some (61, false), .mv (.t 0)⟩, none), (⟨some 63, some (61, false), .mv (.t 6)⟩, none), (⟨some 64, some (61, false), .ia 5 (.t 62) (.t 63)⟩, none), (⟨some 65, some (61, false), .fa 2 (.t 64)⟩, none), (⟨some 66, some (61, false), .ld 1 false (.t 65)⟩, none), (⟨some 67, some (61, false), .fa 2 (.t 3)⟩, none), (⟨some 68, some (61, false), .ld 1 false (.t 67)⟩, none), (⟨some 69, some (61, false), .bin .neq .leaf (.t 66) (.t 68)⟩, none), (⟨some 70, none, .pick (.t 61) (.k (.bool true)) (.t 69)⟩, none), (⟨some 71, none, .mv (.t 70)⟩, none), (⟨some 72, some (71, false), .mv (.t 0)⟩, none), (⟨some 73, some (71, false), .fa 1 (.t 3)⟩, none), (⟨some 74, some (71, false), .ld 1 false (.t 73)⟩, none), (⟨some 75, some (71, false), .call 54 [.t 72, .t 74]⟩, some []), (⟨some 76, some (71, false), .bin .geq .leaf (.t 75) (.k (.int .i64 8))⟩, none), (⟨some 77, none, .pick (.t 71) (.k (.bool true)) (.t 76)⟩, none)]) (.cond (.t 77) (.seq (.rg [⟨some 78, none, .mv (.t 0)⟩, ⟨some 4, none, .mv (.t 78)⟩, ⟨some 5, none, .mv (.k (.int .i64 9))⟩]) .ret) .skip)))) .skip)) (.seq (.rg [⟨some 7, none, .mv (.k (.int .i64 0))⟩]) (.seq (.block 0 (.loop (.seq (.seq (.rd [(⟨some 79, none, .mv (.t 7)⟩, none), (⟨some 80, none, .mv (.t 0)⟩, none), (⟨some 81, none, .len 1 (.t 80)⟩, none), (⟨some 82, none, .bin .lss .leaf (.t 79) (.t 81)⟩, none), (⟨some 83, none, .mv (.t 82)⟩, none), (⟨some 84, some (83, true), .mv (.t 0)⟩, none), (⟨some 85, some (83, true), .mv (.t 7)⟩, none), (⟨some 86, some (83, true), .ia 5 (.t 84) (.t 85)⟩, none), (⟨some 87, some (83, true), .fa 0 (.t 86)⟩, none), (⟨some 88, some (83, true), .ld 1 false (.t 87)⟩, none), (⟨some 89, some (83, true), .fa 0 (.t 3)⟩, none), (⟨some 90, some (83, true), .ld 1 false (.t 89)⟩, none), (⟨some 91, some (83, true), .bin .lss .leaf (.t 88) (.t 90)⟩, none), (⟨some 92, none, .pick (.t 83) (.t 91) (.k (.bool false))⟩, none)]) (.cond (.t 92) .skip (.exit 0))) (.block 1 (.rg [⟨some 93, none, .mv (.t 7)⟩, ⟨some 94, none, .bin .add .leaf (.t 93) (.k (.int .i64 1))⟩, ⟨some 7, none, .mv (.t 94)⟩]))))) (.seq (.rg [⟨some 95, none, .buildS 0 5 [.int .i64 0, .int .i64 0, .int .u8 0, .str ⟨#[]⟩, .bool false] [] 27⟩, ⟨some 96, none, .mv (.t 0)⟩, ⟨some 97, none, .mv (.t 7)⟩, ⟨some 98, none, .slL 5 (.t 96) none (some (.t 97)) none⟩, ⟨some 99, none, .app 25 27 5 48 [.int .i64 0, .int .i64 0, .int .u8 0, .str ⟨#[]⟩, .bool false] (.t 95) (.t 98)⟩, ⟨some 8, none, .mv (.t 99)⟩]) (.seq (.rg [⟨some 100, none, .mv (.t 8)⟩, ⟨some 101, none, .ld 5 true (.t 3)⟩, ⟨some 102, none, .buildS 1 5 [.int .i64 0, .int .i64 0, .int .u8 0, .str ⟨#[]⟩, .bool false] [(0, .t 101)] 27⟩, ⟨some 103, none, .app 25 27 5 48 [.int .i64 0, .int .i64 0, .int .u8 0, .str ⟨#[]⟩, .bool false] (.t 100) (.t 102)⟩, ⟨some 8, none, .mv (.t 103)⟩]) (.seq (.rg [⟨some 104, none, .mv (.t 8)⟩, ⟨some 105, none, .mv (.t 0)⟩, ⟨some 106, none, .mv (.t 7)⟩, ⟨some 107, none, .slL 5 (.t 105) (some (.t 106)) none none⟩, ⟨some 108, none, .app 25 27 5 48 [.int .i64 0, .int .i64 0, .int .u8 0, .str ⟨#[]⟩, .bool false] (.t 104) (.t 107)⟩, ⟨some 4, none, .mv (.t 108)⟩, ⟨some 5, none, .mv (.k (.int .i64 0))⟩]) .ret))))))))⟩ := by kernel_rfl
theorem c13 : cFun E0.P 13 = some ⟨57, [(4, none), (5, none)], .seq (.rg [⟨some 4, none, .mv (.k .nilsl)⟩, ⟨some 5, none, .mv (.k (.int .i64 0))⟩]) (.seq (.rg [⟨some 9, none, .mv (.t 0)⟩, ⟨some 10, none, .mv (.t 1)⟩, ⟨some 11, none, .call 52 [.t 9, .t 10]⟩, ⟨some 6, none, .mv (.t 11)⟩]) (.seq (.seq (.rg [⟨some 12, none, .mv (.t 6)⟩, ⟨some 13, none, .bin .lss .leaf (.t 12) (.k (.int .i64 0))⟩]) (.cond (.t 13) (.seq (.rg [⟨some 14, none, .mv (.t 0)⟩, ⟨some 4, none, .mv (.t 14)⟩, ⟨some 5, none, .mv (.k (.int .i64 7))⟩]) .ret) .skip)) (.seq (.seq (.rg [⟨some 15, none, .mv (.t 0)⟩, ⟨some 16, none, .mv (.t 6)⟩, ⟨some 17, none, .ia 5 (.t 15) (.t 16)⟩, ⟨some 18, none, .fa 4 (.t 17)⟩, ⟨some 19, none, .ld 1 false (.t 18)⟩]) (.cond (.t 19) (.seq (.rg [⟨some 20, none, .mv (.t 0)⟩, ⟨some 4, none, .mv (.t 20)⟩, ⟨some 5, none, .mv (.k (.int .i64 9))⟩]) .ret) .skip)) (.seq (.seq (.rg [⟨some 7, none, .mv (.k (.int .i64 0))⟩]) (.block 0 (.loop (.seq (.seq (.rg [⟨some 21, none, .mv (.t 7)⟩, ⟨some 22, none, .mv (.t 0)⟩, ⟨some 23, none, .len 1 (.t 22)⟩, ⟨some 24, none, .bin .lss .leaf (.t 21) (.t 23)⟩]) (.cond (.t 24) .skip (.exit 0))) (.seq (.block 1 (.seq (.rg [⟨some 27, none, .mv (.t 7)⟩, ⟨some 28, none, .mv (.t 6)⟩, ⟨some 29, none, .bin .neq .leaf (.t 27) (.t 28)⟩, ⟨some 30, none, .mv (.t 29)⟩, ⟨some 31, some (30, true), .mv (.t 0)⟩, ⟨some 32, some (30, true), .mv (.t 0)⟩, ⟨some 33, some (30, true), .mv (.t 7)⟩, ⟨some 34, some (30, true), .ia 5 (.t 32) (.t 33)⟩, ⟨some 35, some (30, true), .fa 0 (.t 34)⟩, ⟨some 36, some (30, true), .ld 1 false (.t 35)⟩, ⟨some 37, some (30, true), .mv (.t 1)⟩, ⟨some 38, some (30, true), .call 53 [.t 31, .t 36, .t 37]⟩, ⟨some 39, none, .pick (.t 30) (.t 38) (.k (.bool false))⟩, ⟨some 40, none, .mv (.t 39)⟩, ⟨some 41, some (40, true), .mv (.t 0)⟩, ⟨some 42, some (40, true), .mv (.t 7)⟩, ⟨some 43, some (40, true), .ia 5 (.t 41) (.t 42)⟩, ⟨some 44, some (40, true), .fa 4 (.t 43)⟩, ⟨some 45, some (40, true), .ld 1 false (.t 44)⟩, ⟨some 46, some (40, true), .un .not (.t 45)⟩, ⟨some 47, none, .pick (.t 40) (.t 46) (.k (.bool false))⟩]) (.cond (.t 47) (.seq (.rg [⟨some 48, none, .mv (.t 0)⟩, ⟨some 4, none, .mv (.t 48)⟩, ⟨some 5, none, .mv (.k (.int .i64 9))⟩]) .ret) .skip))) (.rg [⟨some 25, none, .mv (.t 7)⟩, ⟨some 26, none, .bin .add .leaf (.t 25) (.k (.int .i64 1))⟩, ⟨some 7, none, .mv (.t 26)⟩])))))) (.seq (.rg [⟨some 49, none, .buildS 0 5 [.int .i64 0, .int .i64 0, .int .u8 0, .str ⟨#[]⟩, .bool false] [] 27⟩, ⟨some 50, none, .mv (.t 0)⟩, ⟨some 51, none, .app 25 27 5 48 [.int .i64 0, .int .i64 0, .int .u8 0, .str ⟨#[]⟩, .bool false] (.t 49) (.t 50)⟩, ⟨some 8, none, .mv (.t 51)⟩]) (.seq (.rg [⟨some 52, none, .mv (.t 8)⟩, ⟨some 53, none, .mv (.t 6)⟩, ⟨some 54, none, .ia 5 (.t 52) (.t 53)⟩, ⟨some 55, none, .fa 4 (.t 54)⟩, ⟨none, none, .st 1 (.t 55) (.k (.bool true))⟩]) (.seq (.rg [⟨some 56, none, .mv (.t 8)⟩, ⟨some 4, none, .mv (.t 56)⟩, ⟨some 5, none, .mv (.k (.int .i64 0))⟩]) .ret)))))))⟩ := by kernel_rfl

theorem slD_take {α : Type} {f : α → List D} {sz : Nat} {l : List α} {k : IntKind} {i : Nat} {n : Int} (hf : ∀ x, (f x).length = sz) (h : n = i) (hi : i ≤ l.length) : slD sz (.sl (l.map f)) none (some (.int k n)) none = some (.sl ((l.take i).map f)) := by
  subst h
  have h1 : ∀ e ∈ l.map f, e.length = sz := fun e he => by obtain ⟨x, _, rfl⟩ := List.mem_map.1 he; exact hf x
  simp only [slD, D.rd, if_pos h1, bnd, List.length_map]
  rw [if_pos ⟨by omega, by omega⟩]
  simp [List.map_take]
theorem slD_drop {α : Type} {f : α → List D} {sz : Nat} {l : List α} {k : IntKind} {i : Nat} {n : Int} (hf : ∀ x, (f x).length = sz) (h : n = i) (hi : i ≤ l.length) : slD sz (.sl (l.map f)) (some (.int k n)) none none = some (.sl ((l.drop i).map f)) := by
  subst h
  have h1 : ∀ e ∈ l.map f, e.length = sz := fun e he => by obtain ⟨x, _, rfl⟩ := List.mem_map.1 he; exact hf x
  simp only [slD, D.rd, if_pos h1, bnd, List.length_map]
  rw [if_pos ⟨by omega, by omega⟩]
  simp only [Int.toNat_natCast]
  rw [List.take_of_length_le (by simp), List.map_drop]

theorem insA_step {q : List Ac} {a : Ac} {i : Nat} (hi : i < q.length) (h : (q[i]!).code < a.code) (hI : insA q a = q.take i ++ insA (q.drop i) a) : insA q a = q.take (i + 1) ++ insA (q.drop (i + 1)) a := by
  rw [hI, take_snA hi, List.drop_eq_getElem_cons hi, ← getElem!_pos q i hi, insA, if_pos h]; simp
theorem insA_stop {q : List Ac} {a : Ac} {i : Nat} (h : q.length ≤ i ∨ (i < q.length ∧ ¬ (q[i]!).code < a.code)) (hI : insA q a = q.take i ++ insA (q.drop i) a) : insA q a = q.take i ++ [a] ++ q.drop i := by
  rw [hI]
  rcases h with h | ⟨hi, h⟩
  · rw [List.drop_of_length_le h]; simp [insA]
  · rw [List.drop_eq_getElem_cons hi, ← getElem!_pos q i hi, insA, if_neg h]; simp
theorem addR_no {q : List Ac} {n : Nat} {a : Ac} {e : Int} (h : addE (look q) n a = e) (he : e ≠ 0) : tupD [.sl (acsL q), .int .i64 e] = .tup [.sl (acsL (addR q n a)), .int .i64 (addE (look q) n a)] := by
  rw [addR, if_neg (by rw [h]; exact he), h]; rfl
theorem ac5 (q : List Ac) : ∀ s ∈ acsL q, s.length = 5 := fun s hs => by obtain ⟨x, _, rfl⟩ := List.mem_map.1 hs; rfl
theorem look_at {q : List Ac} {k : Int} (h : 0 ≤ atI q k) : (look q k).isSome = true ∧ iaD 5 (.sl (acsL q)) (.int .i64 (atI q k)) = some (.pe ((look q k).getD noAc).cs 0) := by
  rcases atI_cases q k with ⟨h1, h2⟩ | ⟨i, x, h1, h2, h3, h4, h5⟩
  · omega
  · rw [h4]
    refine ⟨rfl, ?_⟩
    rw [iaD_ac (i := i) h2 h1, getElem!_pos q i h1]
    rw [List.getElem?_eq_getElem h1] at h3
    rw [Option.some.inj h3]; rfl
theorem look_no {q : List Ac} {k : Int} (h : ¬ 0 ≤ atI q k) : (look q k).isSome = false := by
  rcases atI_cases q k with ⟨h1, h2⟩ | ⟨i, x, h1, h2, h3, h4, h5⟩
  · rw [h1]; rfl
  · omega
set_option maxHeartbeats 2000000 in
theorem add_p (ql : List Ac) (hl : ql.length < 1000000) (a : Ac) (n : Nat) (h0 : look ql 0 = none) (he : ends (look ql) n a.up) (hc : cntA ql n a.up ql = n) :
    Pure 15 [.sl (acsL ql), acD a] (.tup [.sl (acsL (addR ql n a)), .int .i64 (addE (look ql) n a)]) := by
  intro S tk
  have la := acsL_len ql
  have dp := depth_p ql a.up n hl he
  rw [hc] at dp
  have up0 : a.up = 0 → (look ql a.up).isSome = false := fun h => by rw [h, h0]; rfl
  refine ACalls.fgo c15 rfl fun hS => ?_
  repeat' first | with_reducible refine fzD_ite (fun q => ?_) (fun q => ?_) | ((try conv => whnf); first
    | refine bs_d (fun q => ?_) (fun q => ?_)
    | refine bs_n ?_
    | refine bs_i (fun q => ?_) (fun q => ?_)
    | refine ck (by first | rfl | simp) rfl (side2 _) ?_
    | refine cq (side2 _) ?_
    | refine ck (by first | rfl | simp) rfl (at_p ql _ hl) ?_
    | refine cq (at_p ql _ hl) ?_
    | refine ck (by first | rfl | simp) rfl (dp) ?_
    | refine cq (dp) ?_
    | refine pK_i (look_at (by omega)).2 ?_
    | refine ffin _ rfl rfl hS (Sub.refl _) (by simp only [tupD, D.sc, scL, sc_acsL]; rfl) ⟨?_, rfl, rfl⟩
    | refine eqk rfl ?_
    | refine ffin _ rfl rfl hS (Sub.refl _) rfl ⟨?_, rfl, rfl⟩)
  all_goals try exact addR_no (addE_2 (fun h => by obtain ⟨⟨h1, h2⟩, h3, ⟨h4, h5⟩, h6⟩ := h; first | omega | (exact h3 (by assumption)) | simp_all)) (by decide)
  all_goals (have hm : mayA a := ⟨⟨by omega, by omega⟩, by assumption, ⟨by omega, by omega⟩, by assumption⟩)
  all_goals try exact addR_no (addE_8 hm (look_at (by assumption)).1) (by decide)
  all_goals (have hno : (look ql a.code).isSome = false := look_no (by assumption))
  all_goals try exact addR_no (addE_7 hm hno (look_no (by omega)) (by assumption)) (by decide)
  all_goals try exact addR_no (addE_9 hm hno (look_at (by omega)).1 (.inl (by assumption))) (by decide)
  all_goals try exact addR_no (addE_9 hm hno (look_at (by omega)).1 (.inr (.inl (by assumption)))) (by decide)
  all_goals try exact addR_no (addE_9 hm hno (look_at (by omega)).1 (.inr (.inr (by assumption)))) (by decide)
  all_goals (have e0 : addE (look ql) n a = 0 := by first | exact addE_0a hm hno (up0 (by assumption)) (by assumption) | exact addE_0b hm hno (look_at (by omega)).1 (by assumption) (by assumption) (by assumption))
  all_goals
    conv => whnf
    refine floop (α := Nat) rfl rfl hS (fun i => i ≤ ql.length ∧ insA ql a = ql.take i ++ insA (ql.drop i) a) (fun i => ql.length - i) (fun i => [(7, .d (.int .i64 i)), (0, .d (.sl (acsL ql))), (3, .lp 0 0)]) (fun _ => [.arr a.cs]) (fun _ => []) 0 ⟨Nat.zero_le _, rfl⟩ (fstep_sub ⟨Sub.refl _, Sub.refl _, Sub.refl _, trivial⟩) ?_
    rintro i ⟨h1, h2⟩
    have lt1 : (acsL (ql.take i)).length ≤ 1000000 := by rw [acsL_len]; exact Nat.le_trans (List.length_take_le ..) (by omega)
    have lt2 : (acsL (ql.drop i)).length ≤ 1000000 := by rw [acsL_len, List.length_drop]; omega
    repeat' first | with_reducible refine fzD_ite (fun q => ?_) (fun q => ?_) | ((try conv => whnf); first
      | refine bs_d (fun q => ?_) (fun q => ?_) <;> (try simp (disch := ((try unfold I64); omega)) only [wi64_id, td] at q)
      | refine bs_n ?_
      | refine bs_i (fun q => ?_) (fun q => ?_)
      | refine pK_i (iaD_ac (i := i) (by first | rfl | omega | (refine Int.sub_eq_zero.mp ?_; simp (disch := ((try unfold I64); omega)) only [wi64_id, td]; omega)) (by omega)) ?_
      | refine pK_i (slD_take (f := Ac.cs) (i := i) (fun _ => rfl) rfl h1) ?_
      | refine pK_i (slD_drop (f := Ac.cs) (i := i) (fun _ => rfl) rfl h1) ?_
      | refine gk_app0 (src := acsL (ql.take i)) rfl rfl (.inr rfl) rfl (ac5 _) ⟨by simp [maxLen]; omega, by omega⟩ ?_
      | refine gk_app (t := 0) (es := acsL (ql.take i)) (src := [a.cs]) rfl rfl rfl rfl rfl (by simp [Ac.cs]) ⟨by simp [maxLen]; omega, by simp; omega⟩ ?_
      | refine gk_app (t := 0) (es := acsL (ql.take i) ++ [a.cs]) (src := acsL (ql.drop i)) rfl rfl rfl rfl rfl (ac5 _) ⟨by simp [maxLen]; omega, by simp; omega⟩ ?_
      | refine ffin (.tup [.sl (acsL (ql.take i) ++ [a.cs] ++ acsL (ql.drop i)), .int .i64 0]) rfl rfl hS (Sub.tup (.cons (Sub.rd rfl) (.cons (Sub.refl _) .nil))) ?_ ⟨?_, rfl, rfl⟩
      | refine eqk rfl ?_
      | refine ffin _ rfl rfl hS (Sub.refl _) rfl ⟨?_, rfl, rfl⟩)
    all_goals (have e3 : acsL (ql.take i) ++ [a.cs] ++ acsL (ql.drop i) = acsL (ql.take i ++ [a] ++ ql.drop i) := by rw [acsL_app, acsL_app]; rfl)
    · conv => whnf
      refine fnext (α := Nat) (i + 1) ⟨by omega, insA_step (by omega) (by assumption) h2⟩ (by omega) (fstep_sub ⟨Sub.int (by rw [wi64_id]; omega; unfold I64; omega), Sub.refl _, Sub.refl _, trivial⟩)
    · simp only [D.sc, scL, e3, sc_acsL]; rfl
    · rw [e3, addR, if_pos e0, e0, insA_stop (.inr ⟨by omega, by assumption⟩) h2]
    · simp only [D.sc, scL, e3, sc_acsL]; rfl
    · rw [e3, addR, if_pos e0, e0, insA_stop (.inl (by omega)) h2]

/-- a growing row is handed back within other things, held fast -/
theorem ffinVT {E : Env} {n0 m0 : Nat} {S J : List O} {T TK : Tks} {d d' : D} {k sz : Nat} {es : List (List D)} {e : TypeId} {Post : D → List O → Tks → Prop} (hn : S.length = n0) (hm : T.length = m0) (hS : OSc n0 m0 S) (hJ : J[k]? = some (.vec es e sz)) (hf : VFrz (n0 + k) es d d') (hsc : d'.sc n0 m0 = true) (hp : Post d' S T) : FFin E n0 m0 S J T TK d Post := by
  refine ⟨d', _, _, ?_, hp⟩
  have h1 := Shift.vfreeze (E := E) (n0 := n0) (m0 := m0) (fr := [(0, d)]) (fr' := [(0, d')]) (S := S ++ J) (tk := T ++ TK) (at_own hn hJ) (t := 0) (d' := d') hf ⟨by simp [KL.get]; exact Sub.refl _, trivial⟩
  rw [set_own hn] at h1
  refine h1.trans ?_
  exact Shift.drop ⟨by simp [KL.get]; exact Sub.refl _, trivial⟩ (Nat.le_of_eq hn.symm) (Nat.le_of_eq hm.symm) (by rw [hn, hm]; simp [frSc, hsc]) (by rw [hn, hm]; exact hS)
theorem vfrz_pair {id sz : Nat} {es : List (List D)} {x : D} : VFrz id es (.tup [.vec id es.length sz, x]) (.tup [.sl es, x]) := by
  refine .tup rfl fun j d d' h1 h2 => ?_
  match j with
  | 0 => simp at h1 h2; subst h1; subst h2; exact .vec sz
  | 1 => simp at h1 h2; subst h1; subst h2; exact .refl _
  | j + 2 => simp at h1
theorem shutR_no {q : List Ac} {c : Int} {e : Int} (h : shutRE q c = e) (he : e ≠ 0) : tupD [.sl (acsL q), .int .i64 e] = .tup [.sl (acsL (if shutRE q c = 0 then shR q c else q)), .int .i64 (shutRE q c)] := by
  rw [if_neg (by rw [h]; exact he), h]; rfl
theorem shR_set {q : List Ac} (hnd : (q.map Ac.code).Nodup) {c : Int} {k : Nat} {x : Ac} (hk : q[k]? = some x) (hx : x.code = c) : (acsL q).set k ({ x with sh := true } : Ac).cs = acsL (shR q c) := by
  rw [acsL, acsL, ← List.map_set]
  congr 1
  obtain ⟨h1, h2⟩ := List.getElem?_eq_some_iff.1 hk
  refine List.ext_getElem (by simp [shR]) fun i a1 a2 => ?_
  simp only [List.getElem_set, shR, List.getElem_map]
  by_cases e : k = i
  · subst e; rw [if_pos rfl, h2, if_pos hx]
  · rw [if_neg e, if_neg]
    intro hc
    rw [List.length_set] at a1
    have hne := (List.pairwise_iff_getElem.1 (List.nodup_iff_pairwise_ne.1 hnd))
    rcases Nat.lt_or_gt_of_ne e with hlt | hlt
    · exact hne k i (by simpa using h1) (by simpa using a1) hlt (by simp [h2, hx, hc])
    · exact hne i k (by simpa using a1) (by simpa using h1) hlt (by simp [h2, hx, hc])
theorem code_ne {q : List Ac} (hnd : (q.map Ac.code).Nodup) {i k : Nat} (hi : i < q.length) (hk : k < q.length) (h : ¬ i = k) : (q[i]!).code ≠ (q[k]!).code := by
  have hne := (List.pairwise_iff_getElem.1 (List.nodup_iff_pairwise_ne.1 hnd))
  rw [getElem!_pos q i hi, getElem!_pos q k hk]
  rcases Nat.lt_or_gt_of_ne h with hlt | hlt
  · have := hne i k (by simpa using hi) (by simpa using hk) hlt
    simp only [List.getElem_map] at this
    exact this
  · have := hne k i (by simpa using hk) (by simpa using hi) hlt
    simp only [List.getElem_map] at this
    exact this.symm
set_option maxHeartbeats 2000000 in
theorem shut_p (ql : List Ac) (hl : ql.length < 1000000) (hlow : Low (look ql)) (hnd : (ql.map Ac.code).Nodup) (c : Int) :
    Pure 13 [.sl (acsL ql), .int .i64 c] (.tup [.sl (acsL (if shutRE ql c = 0 then shR ql c else ql)), .int .i64 (shutRE ql c)]) := by
  intro S tk
  have la := acsL_len ql
  have ap := at_p ql c hl
  refine ACalls.fgo c13 rfl fun hS => ?_
  rcases atI_cases ql c with ⟨h3, h4⟩ | ⟨k, x, h3, h4, h5, h6, h7⟩
  · rw [h4] at ap
    have e7 : shutRE ql c = 7 := by rw [shutRE, h3]
    repeat' first | with_reducible refine fzD_ite (fun q => ?_) (fun q => ?_) | ((try conv => whnf); first
      | refine bs_d (fun q => ?_) (fun q => ?_)
      | refine bs_n ?_
      | refine bs_i (fun q => ?_) (fun q => ?_)
      | refine ck (by first | rfl | simp) rfl (ap) ?_
      | refine cq (ap) ?_
      | refine ffin _ rfl rfl hS (Sub.refl _) (by simp only [tupD, D.sc, scL, sc_acsL]; rfl) ⟨?_, rfl, rfl⟩
      | refine eqk rfl ?_
      | refine ffin _ rfl rfl hS (Sub.refl _) rfl ⟨?_, rfl, rfl⟩)
    exact shutR_no e7 (by decide)
  · rw [h4] at ap
    have e5 : ql[k]! = x := by rw [getElem!_pos ql k h3]; rw [List.getElem?_eq_getElem h3] at h5; exact Option.some.inj h5
    have hv : shutRE ql c = if x.sh = true then 9 else if ql.any (badR ql c) = true then 9 else 0 := by rw [shutRE, h6]
    have ik := iaD_ac (l := ql) (i := k) (n := (k : Int)) rfl h3
    rw [e5] at ik
    repeat' first | with_reducible refine fzD_ite (fun q => ?_) (fun q => ?_) | ((try conv => whnf); first
      | refine bs_d (fun q => ?_) (fun q => ?_)
      | refine bs_n ?_
      | refine bs_i (fun q => ?_) (fun q => ?_)
      | refine ck (by first | rfl | simp) rfl (ap) ?_
      | refine cq (ap) ?_
      | refine pK_i ik ?_
      | refine ffin _ rfl rfl hS (Sub.refl _) (by simp only [tupD, D.sc, scL, sc_acsL]; rfl) ⟨?_, rfl, rfl⟩
      | refine eqk rfl ?_
      | refine ffin _ rfl rfl hS (Sub.refl _) rfl ⟨?_, rfl, rfl⟩)
    · exact shutR_no (by rw [hv, if_pos (by assumption)]) (by decide)
    have hsh : x.sh = false := by assumption
    rw [if_neg (by rw [hsh]; simp)] at hv
    conv => whnf
    refine floop (α := Nat) rfl rfl hS (fun i => i ≤ ql.length ∧ (ql.take i).any (badR ql c) = false) (fun i => ql.length - i) (fun i => [(7, .d (.int .i64 i)), (6, .d (.int .i64 k)), (0, .d (.sl (acsL ql))), (1, .d (.int .i64 c))]) (fun _ => []) (fun _ => []) 0 ⟨Nat.zero_le _, by simp⟩ (fstep_sub ⟨Sub.refl _, Sub.refl _, Sub.refl _, Sub.refl _, trivial⟩) ?_
    rintro i ⟨h1, h2⟩
    have st : i < ql.length → badR ql c ql[i]! = false → (ql.take (i + 1)).any (badR ql c) = false := fun hi hb => by
      rw [take_snA hi, List.any_append, h2, List.any_cons, hb]; rfl
    have yes : i < ql.length → badR ql c ql[i]! = true → shutRE ql c = 9 := fun hi hb => by
      rw [hv, if_pos (List.any_eq_true.2 ⟨ql[i]!, by rw [getElem!_pos ql i hi]; exact List.getElem_mem _, hb⟩)]
    have cne : i < ql.length → ¬ (i : Int) = k → (ql[i]!).code ≠ c := fun hi h => by
      have := code_ne hnd hi h3 (fun e => h (by omega))
      rwa [e5, h7] at this
    have bk : i = k → badR ql c ql[i]! = false := fun e => by
      subst e
      rw [badR, e5, h7]; simp
    have hrow : (acsL ql)[k]? = some x.cs := by rw [acsL, List.getElem?_map, h5]; rfl
    have elen : (acsL ql).length = ((acsL ql).set k ({ x with sh := true } : Ac).cs).length := by rw [List.length_set]
    have e0 : ql.length ≤ i → shutRE ql c = 0 := fun hi => by
      rw [List.take_of_length_le hi] at h2
      rw [hv, if_neg (by rw [h2]; simp)]
    repeat' first | with_reducible refine fzD_ite (fun q => ?_) (fun q => ?_) | ((try conv => whnf); first
      | refine bs_d (fun q => ?_) (fun q => ?_) <;> (try simp (disch := ((try unfold I64); omega)) only [wi64_id, td] at q)
      | refine bs_n ?_
      | refine bs_i (fun q => ?_) (fun q => ?_)
      | refine pK_i (iaD_ac (i := i) (by first | rfl | omega | (refine Int.sub_eq_zero.mp ?_; simp (disch := ((try unfold I64); omega)) only [wi64_id, td]; omega)) (by omega)) ?_
      | refine ck (by first | rfl | simp) rfl (is_b ql hl hlow _ _) ?_
      | refine cq (is_b ql hl hlow _ _) ?_
      | refine pK_i ik ?_
      | refine ffin (.tup [.sl (acsL ql), .int .i64 9]) rfl rfl hS (Sub.refl _) (by simp only [D.sc, scL, sc_acsL]; rfl) ⟨?_, rfl, rfl⟩
      | refine gk_app0v (src := acsL ql) rfl rfl (.inr rfl) rfl (ac5 _) ⟨by simp [maxLen]; omega, by omega⟩ ?_
      | refine pK_i (iaD_vecN (k := k) rfl (by rw [la]; exact h3)) ?_
      | refine gk_stpv_own (k := 0) (row := x.cs) (d := .bool true) rfl rfl rfl rfl hrow rfl ⟨rfl, rfl, rfl, rfl, by simp [Ac.cs]⟩ ?_
      | (show FFin _ _ _ _ _ _ _ (.tup [.vec (S.length + 0) (acsL ql).length 5, .int .i64 0]) _; rw [elen]; refine ffinVT (k := 0) (es := (acsL ql).set k ({ x with sh := true } : Ac).cs) rfl rfl hS rfl vfrz_pair (by rw [shR_set hnd h5 h7]; simp only [D.sc, scL, sc_acsL]; rfl) ⟨?_, rfl, rfl⟩)
      | refine eqk rfl ?_
      | refine ffin _ rfl rfl hS (Sub.refl _) rfl ⟨?_, rfl, rfl⟩)
    · conv => whnf
      refine fnext (α := Nat) (i + 1) ⟨by omega, st (by omega) (bk (by omega))⟩ (by omega) (fstep_sub ⟨Sub.int (by rw [wi64_id]; omega; unfold I64; omega), Sub.refl _, Sub.refl _, Sub.refl _, trivial⟩)
    · conv => whnf
      refine fnext (α := Nat) (i + 1) ⟨by omega, st (by omega) (by rename_i q; rw [badR, q]; simp)⟩ (by omega) (fstep_sub ⟨Sub.int (by rw [wi64_id]; omega; unfold I64; omega), Sub.refl _, Sub.refl _, Sub.refl _, trivial⟩)
    · rename_i q1 q2 q3
      exact shutR_no (yes (by omega) (by rw [badR, q3, q, decide_eq_true (cne (by omega) q2)]; rfl)) (by decide)
    · conv => whnf
      refine fnext (α := Nat) (i + 1) ⟨by omega, st (by omega) (by rename_i q; rw [badR, q]; simp)⟩ (by omega) (fstep_sub ⟨Sub.int (by rw [wi64_id]; omega; unfold I64; omega), Sub.refl _, Sub.refl _, Sub.refl _, trivial⟩)
    · rw [shR_set hnd h5 h7, if_pos (e0 (by omega)), e0 (by omega)]
end Go.KL.Ythaoejicodhgaaa

/- charts: what the document's list says once it is changed -/
set_option linter.unusedVariables false
set_option linter.unusedSimpArgs false
set_option linter.unusedSectionVars false
set_option maxRecDepth 4000
namespace Go.KL.Ythaoejicodhgaaa
open Go Go.KL Go.RowKit Go.Proofs Go.Sort

theorem addE_inv {f : Int → Option Ac} {n : Nat} {a : Ac} (h : addE f n a = 0) : mayA a ∧ f a.code = none ∧ (a.up = 0 ∨ (f a.up).isSome = true) ∧ ((f a.up).isSome = true → ((f a.up).getD noAc).sh = false ∧ ((f a.up).getD noAc).cl = a.cl ∧ n < 8) := by
  unfold addE at h
  split at h
  · rename_i hm
    split at h
    · omega
    · rename_i h1
      split at h
      · omega
      · rename_i h2
        split at h
        · omega
        · rename_i h3
          refine ⟨hm, by simpa using h1, ?_, fun hs => ?_⟩
          · by_cases e : a.up = 0
            · exact .inl e
            · refine .inr ?_
              cases hs : (f a.up).isSome with
              | true => rfl
              | false => exact absurd ⟨e, hs⟩ h2
          · refine ⟨?_, ?_, ?_⟩
            · cases hsh : ((f a.up).getD noAc).sh with
              | false => rfl
              | true => exact absurd ⟨hs, .inl hsh⟩ h3
            · exact Classical.byContradiction fun hc => h3 ⟨hs, .inr (.inl hc)⟩
            · exact Classical.byContradiction fun hc => h3 ⟨hs, .inr (.inr (by omega))⟩
  · omega
theorem look_ins {a : Ac} : ∀ {q : List Ac}, look q a.code = none → look (insA q a) = upd (look q) a.code a
  | [], _ => by
    funext k
    simp only [insA, look, upd]
    by_cases e : a.code = k
    · subst e; simp
    · rw [if_neg e, if_neg (fun h => e h.symm)]
  | x :: r, h => by
    funext k
    rw [look] at h
    split at h
    · cases h
    · rename_i hx
      rw [insA]
      split
      · rw [look, look_ins h]
        simp only [upd, look]
        by_cases e : x.code = k
        · subst e; rw [if_pos rfl, if_neg hx, if_pos rfl]
        · rw [if_neg e, if_neg e]
      · rw [look]
        simp only [upd]
        by_cases e : a.code = k
        · subst e; simp
        · rw [if_neg e, if_neg (fun h => e h.symm)]
theorem mem_ins {a y : Ac} : ∀ {q : List Ac}, y ∈ insA q a ↔ y = a ∨ y ∈ q
  | [] => by simp [insA]
  | x :: r => by
    rw [insA]
    split
    · rw [List.mem_cons, mem_ins, List.mem_cons]
      constructor
      · rintro (h | h | h)
        · exact .inr (.inl h)
        · exact .inl h
        · exact .inr (.inr h)
      · rintro (h | h | h)
        · exact .inr (.inl h)
        · exact .inl h
        · exact .inr (.inr h)
    · simp
theorem len_ins {a : Ac} : ∀ {q : List Ac}, (insA q a).length = q.length + 1
  | [] => rfl
  | x :: r => by
    rw [insA]
    split
    · simp [len_ins]
    · simp
theorem rise_ins {a : Ac} : ∀ {q : List Ac}, (q.map Ac.code).Pairwise (· < ·) → look q a.code = none → ((insA q a).map Ac.code).Pairwise (· < ·)
  | [], _, _ => by simp [insA]
  | x :: r, h, hn => by
    rw [List.map_cons, List.pairwise_cons] at h
    rw [look] at hn
    split at hn
    · cases hn
    · rename_i hx
      rw [insA]
      split
      · rw [List.map_cons, List.pairwise_cons]
        refine ⟨fun k hk => ?_, rise_ins h.2 hn⟩
        obtain ⟨y, hy, rfl⟩ := List.mem_map.1 hk
        rcases mem_ins.1 hy with rfl | hy
        · assumption
        · exact h.1 _ (List.mem_map_of_mem hy)
      · rw [List.map_cons, List.pairwise_cons]
        refine ⟨fun k hk => ?_, by rw [List.map_cons, List.pairwise_cons]; exact h⟩
        rw [List.map_cons, List.mem_cons] at hk
        rcases hk with rfl | hk
        · omega
        · have := h.1 k hk; omega
section
variable {f : Int → Option Ac}
theorem climb_upd {a : Ac} (ha : f a.code = none) (hcl : ∀ k x, f k = some x → x.up = 0 ∨ (f x.up).isSome = true) (h0 : f 0 = none) (hc : a.code ≠ 0) :
    ∀ (i : Nat) (k : Int), ((f k).isSome = true ∨ k = 0) → climb (upd f a.code a) i k = climb f i k ∧ ((f (climb f i k)).isSome = true ∨ climb f i k = 0)
  | 0, k, h => ⟨rfl, h⟩
  | i + 1, k, h => by
    have hk : k ≠ a.code := by
      rintro rfl
      rcases h with h | h
      · rw [ha] at h; cases h
      · exact hc h
    have e : upF (upd f a.code a) k = upF f k := by rw [upF, upd, if_neg hk]; rfl
    have h2 : (f (upF f k)).isSome = true ∨ upF f k = 0 := by
      rw [upF]
      cases hx : f k with
      | none => exact .inr rfl
      | some x => exact (hcl k x hx).symm
    rw [climb, e]
    exact climb_upd ha hcl h0 hc i _ h2
theorem low_upd {a : Ac} {n : Nat} (hl : Low f) (ha : f a.code = none) (hcl : ∀ k x, f k = some x → x.up = 0 ∨ (f x.up).isSome = true) (h0 : f 0 = none) (hc : a.code ≠ 0)
    (hu : a.up = 0 ∨ (f a.up).isSome = true) (he : ends f n a.up) (hn : (f a.up).isSome = true → n < 8) : Low (upd f a.code a) := by
  have up0 : ∀ {k}, ((f k).isSome = true ∨ k = 0) → upd f a.code a k = f k := fun {k} h => by
    rw [upd, if_neg]
    rintro rfl
    rcases h with h | h
    · rw [ha] at h; cases h
    · exact hc h
  intro k
  by_cases hk : k = a.code
  · subst hk
    have e : upF (upd f a.code a) a.code = a.up := by rw [upF, upd, if_pos rfl]; rfl
    obtain ⟨e1, e2⟩ := climb_upd ha hcl h0 hc 7 a.up hu.symm
    rw [climb, e, e1, up0 e2]
    have hn' : n ≤ 7 := by
      rcases hu with hz | hs
      · rcases Nat.eq_zero_or_pos n with h | h
        · omega
        · have := he.2 0 h
          rw [show climb f 0 a.up = a.up from rfl, hz, h0] at this; cases this
      · have := hn hs; omega
    have := past h0 (7 - n) _ he.1
    rw [← climb_add] at this
    rwa [show n + (7 - n) = 7 by omega] at this
  · by_cases hs : (f k).isSome = true ∨ k = 0
    · obtain ⟨e1, e2⟩ := climb_upd ha hcl h0 hc 8 k hs
      rw [e1, up0 e2]; exact hl k
    · have hkn : f k = none := by
        cases hx : f k with
        | none => rfl
        | some x => exact absurd (.inl (by rw [hx]; rfl)) hs
      refine past (by rw [up0 (.inr rfl)]; exact h0) 8 k ?_
      rw [upd, if_neg hk]; exact hkn
end
section
variable {q : List Ac} {a : Ac} {c : Int} {n : Nat}
theorem ok_nil : OkQ [] := ⟨by simp, by simp, by simp, fun k => rfl⟩
theorem OkQ.add (h : OkQ q) (he : ends (look q) n a.up) (h0 : addE (look q) n a = 0) : OkQ (insA q a) ∧ look (insA q a) = upd (look q) a.code a := by
  obtain ⟨hm, hc, hu, hs⟩ := addE_inv h0
  have hL := look_ins hc
  refine ⟨⟨rise_ins h.rise hc, fun x hx => ?_, fun x hx => ?_, ?_⟩, hL⟩
  · rcases mem_ins.1 hx with rfl | hx
    · exact hm.1.1
    · exact h.pos x hx
  · rw [hL]
    have more : ∀ k, (look q k).isSome = true → (upd (look q) a.code a k).isSome = true := fun k hk => isSome_upd.2 (.inr hk)
    rcases mem_ins.1 hx with rfl | hx
    · exact hu.imp id (more _)
    · exact (h.cl x hx).imp id (more _)
  · rw [hL]
    exact low_upd h.low hc (fun k x hx => h.clF hx) h.zero (by have := hm.1.1; omega) hu he fun hk => (hs hk).2.2
theorem look_shR {x : Ac} (hx : look q c = some x) : look (shR q c) = upd (look q) c { x with sh := true } := by
  funext k
  have key : ∀ (r : List Ac), look (shR r c) k = if k = c then (look r c).map fun y => { y with sh := true } else look r k := fun r => by
    induction r with
    | nil => simp [shR, look]
    | cons y r ih =>
      rw [shR, List.map_cons, look, look, look]
      rw [shR] at ih
      rw [ih]
      by_cases hy : y.code = c
      · by_cases hk : k = c
        · subst hk; simp [hy]
        · have : ¬ c = k := fun e => hk e.symm
          simp [hy, hk, this]
      · by_cases hk : k = c
        · subst hk; simp [hy]
        · simp [hy, hk]
  rw [key, hx, upd]; rfl
theorem climb_congr {f g : Int → Option Ac} (h : ∀ k, upF g k = upF f k) : ∀ (i : Nat) (k : Int), climb g i k = climb f i k
  | 0, k => rfl
  | i + 1, k => by rw [climb, climb, h, climb_congr h]
theorem OkQ.shut {x : Ac} (h : OkQ q) (hx : look q c = some x) : OkQ (shR q c) ∧ look (shR q c) = upd (look q) c { x with sh := true } := by
  have hL := look_shR hx
  have codes : (shR q c).map Ac.code = q.map Ac.code := by
    rw [shR, List.map_map]
    exact List.map_congr_left fun y _ => by simp only [Function.comp]; split <;> rfl
  have some_iff : ∀ k, (upd (look q) c { x with sh := true } k).isSome = (look q k).isSome := fun k => by
    unfold upd
    by_cases e : k = c
    · subst e; rw [if_pos rfl, hx]; rfl
    · rw [if_neg e]
  have old : ∀ y ∈ shR q c, ∃ z ∈ q, y.code = z.code ∧ y.up = z.up := fun y hy => by
    obtain ⟨z, hz, rfl⟩ := List.mem_map.1 hy
    exact ⟨z, hz, by split <;> rfl, by split <;> rfl⟩
  refine ⟨⟨by rw [codes]; exact h.rise, fun y hy => ?_, fun y hy => ?_, ?_⟩, hL⟩
  · obtain ⟨z, hz, e, _⟩ := old y hy
    rw [e]; exact h.pos z hz
  · obtain ⟨z, hz, _, e⟩ := old y hy
    rw [e, hL, some_iff]; exact h.cl z hz
  · rw [hL]
    intro k
    rw [climb_congr (f := look q) fun k => ?_]
    · have := h.low k
      have e := some_iff (climb (look q) 8 k)
      rw [this] at e
      cases hy : upd (look q) c { x with sh := true } (climb (look q) 8 k) with
      | none => rfl
      | some y => rw [hy] at e; cases e
    · rw [upF, upF, upd]
      by_cases e : k = c
      · subst e; rw [if_pos rfl, hx]; rfl
      · rw [if_neg e]
theorem OkQ.shutE (h : OkQ q) : Go.KL.Ythaoejicodhgaaa.shutE (look q) (undL q c q) c = shutRE q c := by
  rw [Go.KL.Ythaoejicodhgaaa.shutE, shutRE]
  cases hx : look q c with
  | none => rfl
  | some x =>
    rw [if_pos (show (some x).isSome = true from rfl)]
    simp only
    obtain ⟨hxm, hxc⟩ := look_mem hx
    have hc : (look q c).isSome = true := by rw [hx]; rfl
    have key : (undL q c q).any (badK (look q) c) = (x.sh || q.any (badR q c)) := by
      rw [Bool.eq_iff_iff, Bool.or_eq_true, List.any_eq_true, List.any_eq_true]
      constructor
      · rintro ⟨k, hk, hb⟩
        obtain ⟨y, hy, rfl⟩ := List.mem_map.1 hk
        obtain ⟨hy1, hy2⟩ := List.mem_filter.1 hy
        rw [badK, look_of h.rise hy1] at hb
        by_cases e : y.code = c
        · left
          have : y = x := by have := look_of h.rise hy1; rw [e, hx] at this; exact (Option.some.inj this).symm
          subst this
          simpa [e] using hb
        · right
          refine ⟨y, hy1, ?_⟩
          rw [badR, hy2]
          simpa [e] using hb
      · rintro (hs | ⟨y, hy, hb⟩)
        · refine ⟨c, ?_, ?_⟩
          · rw [← hxc]
            refine List.mem_map_of_mem (List.mem_filter.2 ⟨hxm, ?_⟩)
            rw [hxc]
            exact isB_self h.low hc
          · rw [badK, hx]; simp [hs]
        · rw [badR, Bool.and_eq_true, Bool.and_eq_true] at hb
          obtain ⟨h1, h2, h3⟩ := hb
          refine ⟨y.code, List.mem_map_of_mem (List.mem_filter.2 ⟨hy, h2⟩), ?_⟩
          rw [badK, look_of h.rise hy]
          have := of_decide_eq_true h1
          simp only [Option.getD_some]
          rw [decide_eq_false this]
          simpa using h3
    rw [key]
    cases x.sh <;> simp
end
end Go.KL.Ythaoejicodhgaaa

/- charts: a chart has just the document's accounts -/
set_option linter.unusedVariables false
set_option linter.unusedSimpArgs false
set_option linter.unusedSectionVars false
set_option maxRecDepth 4000
namespace Go.KL.Ythaoejicodhgaaa
open Go Go.KL Go.RowKit Go.Proofs Go.Sort

theorem c17 : cFun E0.P 17 = some ⟨62, [(6, none)], .seq (.rg [⟨some 6, none, .mv (.k (.bool false))⟩]) (.seq (.seq (.rg [⟨some 10, none, .mv (.t 0)⟩, ⟨some 11, none, .call 20 [.t 10]⟩, ⟨some 12, none, .mv (.t 1)⟩, ⟨some 13, none, .call 50 [.t 11, .t 12]⟩, ⟨some 14, none, .un .not (.t 13)⟩, ⟨some 15, none, .mv (.t 14)⟩, ⟨some 16, some (15, false), .mv (.t 0)⟩, ⟨some 17, some (15, false), .mv (.t 2)⟩, ⟨some 18, some (15, false), .call 21 [.t 16, .t 17]⟩, ⟨some 19, some (15, false), .mv (.t 1)⟩, ⟨some 20, some (15, false), .mv (.t 2)⟩, ⟨some 21, some (15, false), .call 58 [.t 19, .t 20]⟩, ⟨some 22, some (15, false), .call 49 [.t 18, .t 21]⟩, ⟨some 23, some (15, false), .un .not (.t 22)⟩, ⟨some 24, none, .pick (.t 15) (.k (.bool true)) (.t 23)⟩, ⟨some 25, none, .mv (.t 24)⟩, ⟨some 26, some (25, false), .mv (.t 0)⟩, ⟨some 27, some (25, false), .mv (.t 2)⟩, ⟨some 28, some (25, false), .call 24 [.t 26, .t 27]⟩, ⟨some 29, some (25, false), .mv (.t 1)⟩, ⟨some 30, some (25, false), .mv (.t 2)⟩, ⟨some 31, some (25, false), .call 59 [.t 29, .t 30]⟩, ⟨some 32, some (25, false), .bin .neq .leafB (.t 28) (.t 31)⟩, ⟨some 33, none, .pick (.t 25) (.k (.bool true)) (.t 32)⟩]) (.cond (.t 33) (.seq (.rg [⟨some 6, none, .mv (.k (.bool false))⟩]) .ret) .skip)) (.seq (.rg [⟨some 35, none, .mv (.t 0)⟩, ⟨some 36, none, .mv (.t 2)⟩, ⟨some 37, none, .call 22 [.t 35, .t 36]⟩, ⟨some 34, none, .mv (.t 37)⟩, ⟨some 38, none, .ext 0 (.t 34)⟩, ⟨some 39, none, .ext 1 (.t 34)⟩, ⟨some 7, none, .alloc [.int .i64 0, .int .i64 0, .int .u8 0, .str ⟨#[]⟩, .bool false] 27⟩, ⟨none, none, .st 5 (.t 7) (.t 38)⟩, ⟨some 8, none, .mv (.t 39)⟩]) (.seq (.rg [⟨some 40, none, .mv (.t 1)⟩, ⟨some 41, none, .mv (.t 2)⟩, ⟨some 42, none, .call 52 [.t 40, .t 41]⟩, ⟨some 9, none, .mv (.t 42)⟩]) (.seq (.seq (.rg [⟨some 43, none, .mv (.t 9)⟩, ⟨some 44, none, .bin .lss .leaf (.t 43) (.k (.int .i64 0))⟩]) (.cond (.t 44) (.seq (.rg [⟨some 45, none, .mv (.t 8)⟩, ⟨some 46, none, .bin .eql .leaf (.t 45) (.k (.int .i64 7))⟩, ⟨some 47, none, .mv (.t 46)⟩, ⟨some 48, some (47, true), .ld 5 true (.t 7)⟩, ⟨some 49, some (47, true), .build [.int .i64 0, .int .i64 0, .int .u8 0, .str ⟨#[]⟩, .bool false] []⟩, ⟨some 50, some (47, true), .bin .eql (.agg [(0, .i), (1, .i), (2, .i), (3, .s), (4, .b)]) (.t 48) (.t 49)⟩, ⟨some 51, none, .pick (.t 47) (.t 50) (.k (.bool false))⟩, ⟨some 6, none, .mv (.t 51)⟩]) .ret) .skip)) (.seq (.rd [(⟨some 52, none, .mv (.t 8)⟩, none), (⟨some 53, none, .bin .eql .leaf (.t 52) (.k (.int .i64 0))⟩, none), (⟨some 54, none, .mv (.t 53)⟩, none), (⟨some 55, some (54, true), .ld 5 true (.t 7)⟩, none), (⟨some 56, some (54, true), .mv (.t 1)⟩, none), (⟨some 57, some (54, true), .mv (.t 9)⟩, none), (⟨some 58, some (54, true), .ia 5 (.t 56) (.t 57)⟩, none), (⟨some 59, some (54, true), .ld 5 true (.t 58)⟩, none), (⟨some 60, some (54, true), .bin .eql (.agg [(0, .i), (1, .i), (2, .i), (3, .s), (4, .b)]) (.t 55) (.t 59)⟩, none), (⟨some 61, none, .pick (.t 54) (.t 60) (.k (.bool false))⟩, none), (⟨some 6, none, .mv (.t 61)⟩, none)]) .ret)))))⟩ := by kernel_rfl

set_option maxHeartbeats 2000000 in
theorem tells_c {cid mid : Nat} {S : List O} {tk : Tks} {o : O} {ql : List Ac} (hch : Ch (look ql) o) (hc : S[cid]? = some (.arr [.map mid])) (hm : S[mid]? = some o) (hok : OkQ ql) (hl : ql.length < 1000000) (k : Int) :
    ACalls E0 17 [.po cid 0, .sl (acsL ql), .int .i64 k] S tk (fun r S' tk' => r = .bool true ∧ S' = S ∧ tk' = tk) := by
  have hLl : (ql.map Ac.code).length < 1000000 := by rw [List.length_map]; exact hl
  have hul : (undL ql k ql).length < 1000000 := by
    rw [undL, List.length_map]; exact Nat.lt_of_le_of_lt (List.length_filter_le ..) hl
  have sa := sameA ql ql (by omega) (by omega)
  rw [decide_eq_true rfl] at sa
  have si := sameI (undL ql k ql) (undL ql k ql) (by omega) (by omega)
  rw [decide_eq_true rfl] at si
  have al := fun (J : List O) (tk : Tks) => all_c (S := S ++ J) (tk := tk) hch (at_old hc) (at_old hm) hok.keys hLl
  rw [hok.all] at al
  have un := fun (J : List O) (tk : Tks) => under_c (S := S ++ J) (tk := tk) hch (at_old hc) (at_old hm) hok.keys hLl k (hok.und hl k)
  have lf := fun (J : List O) (tk : Tks) => leaf_c (S := S ++ J) (tk := tk) hch (at_old hc) (at_old hm) hok.keys hLl k (hok.und hl k)
  have gt := fun (J : List O) (tk : Tks) => get_c (S := S ++ J) (tk := tk) hch (at_old hc) (at_old hm) k
  have up := under_p ql hl hok.low k
  have lp := leaf_p ql hl hok.low k
  have ap := at_p ql k hl
  refine ACalls.fgo c17 rfl fun hS => ?_
  rcases atI_cases ql k with ⟨h3, h4⟩ | ⟨i, x, h3, h4, h5, h6, h7⟩
  · rw [h4] at ap
    have gv : getF (look ql) k = .tup [.agg noAc.cs, .int .i64 7] := by rw [getF, h3]; rfl
    repeat' first | with_reducible refine fzD_ite (fun q => ?_) (fun q => ?_) | ((try conv => whnf); first
      | refine bs_d (fun q => ?_) (fun q => ?_)
      | refine bs_n ?_
      | refine bs_i (fun q => ?_) (fun q => ?_)
      | refine ck (by first | rfl | simp) rfl (sa) ?_
      | refine cq (sa) ?_
      | refine ck (by first | rfl | simp) rfl (si) ?_
      | refine cq (si) ?_
      | refine ck (by first | rfl | simp) rfl (up) ?_
      | refine cq (up) ?_
      | refine ck (by first | rfl | simp) rfl (lp) ?_
      | refine cq (lp) ?_
      | refine ck (by first | rfl | simp) rfl (ap) ?_
      | refine cq (ap) ?_
      | refine ckA rfl rfl (al _ _) ?_
      | refine ckA rfl rfl (un _ _) ?_
      | refine ckA rfl rfl (lf _ _) ?_
      | (refine ckA rfl rfl (gt _ _) ?_; rw [gv])
      | refine eqk rfl ?_
      | refine ffin _ rfl rfl hS (Sub.refl _) rfl ⟨?_, rfl, rfl⟩)
    all_goals first
      | rfl
      | exact absurd ‹(undL ql k ql).length = 1› ‹¬ (undL ql k ql).length = 1›
      | exact (ac_f (x := x) (y := x) (by assumption) rfl).elim
  · rw [h4] at ap
    have ik := iaD_ac (l := ql) (i := i) (n := (i : Int)) rfl h3
    rw [show ql[i]! = x by rw [getElem!_pos ql i h3]; rw [List.getElem?_eq_getElem h3] at h5; exact Option.some.inj h5] at ik
    have gv : getF (look ql) k = .tup [.agg x.cs, .int .i64 0] := by rw [getF, h6]; rfl
    repeat' first | with_reducible refine fzD_ite (fun q => ?_) (fun q => ?_) | ((try conv => whnf); first
      | refine bs_d (fun q => ?_) (fun q => ?_)
      | refine bs_n ?_
      | refine bs_i (fun q => ?_) (fun q => ?_)
      | refine ck (by first | rfl | simp) rfl (sa) ?_
      | refine cq (sa) ?_
      | refine ck (by first | rfl | simp) rfl (si) ?_
      | refine cq (si) ?_
      | refine ck (by first | rfl | simp) rfl (up) ?_
      | refine cq (up) ?_
      | refine ck (by first | rfl | simp) rfl (lp) ?_
      | refine cq (lp) ?_
      | refine ck (by first | rfl | simp) rfl (ap) ?_
      | refine cq (ap) ?_
      | refine pK_i ik ?_
      | refine ckA rfl rfl (al _ _) ?_
      | refine ckA rfl rfl (un _ _) ?_
      | refine ckA rfl rfl (lf _ _) ?_
      | (refine ckA rfl rfl (gt _ _) ?_; rw [gv])
      | refine eqk rfl ?_
      | refine ffin _ rfl rfl hS (Sub.refl _) rfl ⟨?_, rfl, rfl⟩)
    all_goals first
      | rfl
      | exact absurd ‹(undL ql k ql).length = 1› ‹¬ (undL ql k ql).length = 1›
      | exact (ac_f (x := x) (y := x) (by assumption) rfl).elim
end Go.KL.Ythaoejicodhgaaa

/- charts: ChartTells -/
set_option linter.unusedVariables false
set_option linter.unusedSimpArgs false
set_option linter.unusedSectionVars false
set_option maxRecDepth 4000
namespace Go.KL.Ythaoejicodhgaaa
open Go Go.KL Go.RowKit Go.Proofs Go.Sort

theorem c3 : cFun E0.P 3 = some ⟨82, [(4, none)], .seq (.rg [⟨some 4, none, .mv (.k (.bool false))⟩]) (.seq (.rg [⟨some 10, none, .call 11 []⟩, ⟨some 5, none, .mv (.t 10)⟩]) (.seq (.rg [⟨some 6, none, .mv (.k .nilsl)⟩]) (.seq (.seq (.rg [⟨some 7, none, .mv (.k (.int .i64 0))⟩]) (.block 0 (.loop (.seq (.seq (.rg [⟨some 11, none, .mv (.t 7)⟩, ⟨some 12, none, .mv (.t 0)⟩, ⟨some 13, none, .len 1 (.t 12)⟩, ⟨some 14, none, .bin .lss .leaf (.t 11) (.t 13)⟩, ⟨some 15, none, .mv (.t 14)⟩, ⟨some 16, some (15, true), .mv (.t 7)⟩, ⟨some 17, some (15, true), .bin .lss .leaf (.t 16) (.k (.int .i64 40))⟩, ⟨some 18, none, .pick (.t 15) (.t 17) (.k (.bool false))⟩]) (.cond (.t 18) .skip (.exit 0))) (.seq (.block 1 (.seq (.rg [⟨some 21, none, .mv (.t 0)⟩, ⟨some 22, none, .mv (.t 7)⟩, ⟨some 23, none, .ia 6 (.t 21) (.t 22)⟩, ⟨some 24, none, .fa 1 (.t 23)⟩, ⟨some 25, none, .ld 5 true (.t 24)⟩, ⟨some 8, none, .alloc [.int .i64 0, .int .i64 0, .int .u8 0, .str ⟨#[]⟩, .bool false] 27⟩, ⟨none, none, .st 5 (.t 8) (.t 25)⟩]) (.seq (.seq (.rg [⟨some 26, none, .fa 3 (.t 8)⟩, ⟨some 27, none, .ld 1 false (.t 26)⟩, ⟨some 28, none, .len 0 (.t 27)⟩, ⟨some 29, none, .bin .gtr .leaf (.t 28) (.k (.int .i64 200))⟩]) (.cond (.t 29) (.seq (.rg [⟨some 30, none, .call 12 []⟩, ⟨some 4, none, .mv (.t 30)⟩]) .ret) .skip)) (.seq (.rg [⟨some 9, none, .mv (.k (.int .i64 0))⟩]) (.seq (.seq (.rg [⟨some 31, none, .mv (.t 0)⟩, ⟨some 32, none, .mv (.t 7)⟩, ⟨some 33, none, .ia 6 (.t 31) (.t 32)⟩, ⟨some 34, none, .fa 0 (.t 33)⟩, ⟨some 35, none, .ld 1 false (.t 34)⟩]) (.cond (.t 35) (.seq (.rg [⟨some 37, none, .mv (.t 6)⟩, ⟨some 38, none, .fa 0 (.t 8)⟩, ⟨some 39, none, .ld 1 false (.t 38)⟩, ⟨some 40, none, .call 13 [.t 37, .t 39]⟩, ⟨some 36, none, .mv (.t 40)⟩, ⟨some 41, none, .ext 0 (.t 36)⟩, ⟨some 42, none, .ext 1 (.t 36)⟩, ⟨some 6, none, .mv (.t 41)⟩, ⟨some 9, none, .mv (.t 42)⟩]) (.seq (.rg [⟨some 43, none, .mv (.t 5)⟩, ⟨some 44, none, .fa 0 (.t 8)⟩, ⟨some 45, none, .ld 1 false (.t 44)⟩, ⟨some 46, none, .call 14 [.t 43, .t 45]⟩, ⟨some 47, none, .mv (.t 9)⟩, ⟨some 48, none, .bin .neq .leaf (.t 46) (.t 47)⟩]) (.cond (.t 48) (.seq (.rg [⟨some 4, none, .mv (.k (.bool false))⟩]) .ret) .skip))) (.seq (.rg [⟨some 50, none, .mv (.t 6)⟩, ⟨some 51, none, .ld 5 true (.t 8)⟩, ⟨some 52, none, .call 15 [.t 50, .t 51]⟩, ⟨some 49, none, .mv (.t 52)⟩, ⟨some 53, none, .ext 0 (.t 49)⟩, ⟨some 54, none, .ext 1 (.t 49)⟩, ⟨some 6, none, .mv (.t 53)⟩, ⟨some 9, none, .mv (.t 54)⟩]) (.seq (.rg [⟨some 55, none, .mv (.t 5)⟩, ⟨some 56, none, .ld 5 true (.t 8)⟩, ⟨some 57, none, .call 16 [.t 55, .t 56]⟩, ⟨some 58, none, .mv (.t 9)⟩, ⟨some 59, none, .bin .neq .leaf (.t 57) (.t 58)⟩]) (.cond (.t 59) (.seq (.rg [⟨some 4, none, .mv (.k (.bool false))⟩]) .ret) .skip))))) (.seq (.rg [⟨some 60, none, .mv (.t 5)⟩, ⟨some 61, none, .mv (.t 6)⟩, ⟨some 62, none, .fa 0 (.t 8)⟩, ⟨some 63, none, .ld 1 false (.t 62)⟩, ⟨some 64, none, .call 17 [.t 60, .t 61, .t 63]⟩, ⟨some 65, none, .un .not (.t 64)⟩, ⟨some 66, none, .mv (.t 65)⟩, ⟨some 67, some (66, false), .mv (.t 5)⟩, ⟨some 68, some (66, false), .mv (.t 6)⟩, ⟨some 69, some (66, false), .fa 1 (.t 8)⟩, ⟨some 70, some (66, false), .ld 1 false (.t 69)⟩, ⟨some 71, some (66, false), .call 17 [.t 67, .t 68, .t 70]⟩, ⟨some 72, some (66, false), .un .not (.t 71)⟩, ⟨some 73, none, .pick (.t 66) (.k (.bool true)) (.t 72)⟩]) (.cond (.t 73) (.seq (.rg [⟨some 4, none, .mv (.k (.bool false))⟩]) .ret) .skip))))))) (.rg [⟨some 19, none, .mv (.t 7)⟩, ⟨some 20, none, .bin .add .leaf (.t 19) (.k (.int .i64 1))⟩, ⟨some 7, none, .mv (.t 20)⟩])))))) (.seq (.rg [⟨some 74, none, .mv (.t 1)⟩, ⟨some 75, none, .call 18 [.t 74]⟩, ⟨some 76, none, .mv (.t 1)⟩, ⟨some 77, none, .call 19 [.t 76]⟩, ⟨some 78, none, .bin .eql .leaf (.t 75) (.t 77)⟩, ⟨some 79, none, .mv (.t 78)⟩, ⟨some 80, some (79, true), .call 12 []⟩, ⟨some 81, none, .pick (.t 79) (.t 80) (.k (.bool false))⟩, ⟨some 4, none, .mv (.t 81)⟩]) .ret))))⟩ := by kernel_rfl

structure Act where
  sh : Bool
  a : Ac
  deriving Inhabited
def Act.cs (x : Act) : List D := .bool x.sh :: x.a.cs
def actsL (l : List Act) : List (List D) := l.map Act.cs
theorem actsL_len (l : List Act) : (actsL l).length = l.length := List.length_map ..
theorem sc_actsL (n m : Nat) : ∀ (l : List Act), scLL n m (actsL l) = true
  | [] => rfl
  | x :: r => by
    have := sc_actsL n m r
    unfold actsL at this ⊢
    simp only [List.map_cons, scLL, this, Bool.and_true]; rfl
theorem iaD_act {l : List Act} {i : Nat} {n : Int} (h : n = i) (hi : i < l.length) : iaD 6 (.sl (actsL l)) (.int .i64 n) = some (.pe (l[i]!).cs 0) := by
  subst h
  exact iaD_map (f := Act.cs) (by omega) (by rw [Int.toNat_natCast, List.getElem?_eq_getElem hi, getElem!_pos l i hi]) rfl

structure TX where
  i : Nat
  q : List Ac
  o : O
structure TX.P (l : List Act) (s : TX) : Prop where
  i : s.i ≤ l.length ∧ s.i ≤ 40
  q : s.q.length ≤ s.i
  ok : OkQ s.q
  ch : Ch (look s.q) s.o
section
variable {ql : List Ac} {c : Int} {a : Ac} {o : O}
theorem shut_next (hok : OkQ ql) : (OkQ (if shutRE ql c = 0 then shR ql c else ql) ∧ (if shutRE ql c = 0 then shR ql c else ql).length = ql.length) ∧ ∀ o, Ch (shutF (look ql) (undL ql c ql) c) o → Ch (look (if shutRE ql c = 0 then shR ql c else ql)) o := by
  by_cases he : shutRE ql c = 0
  · rw [if_pos he]
    cases hx : look ql c with
    | none => rw [shutRE, hx] at he; exact absurd he (show ¬ (7 : Int) = 0 by decide)
    | some x =>
      obtain ⟨h1, h2⟩ := hok.shut hx
      refine ⟨⟨h1, by simp [shR]⟩, fun o ho => ?_⟩
      rw [shutF, hok.shutE, if_pos he, hx] at ho
      rw [h2]; exact ho
  · rw [if_neg he]
    refine ⟨⟨hok, rfl⟩, fun o ho => ?_⟩
    rw [shutF, hok.shutE, if_neg he] at ho
    exact ho
theorem add_next {n : Nat} (hok : OkQ ql) (he : ends (look ql) n a.up) : (OkQ (addR ql n a) ∧ (addR ql n a).length ≤ ql.length + 1) ∧ ∀ o, Ch (addF (look ql) n a) o → Ch (look (addR ql n a)) o := by
  unfold addR addF
  by_cases h0 : addE (look ql) n a = 0
  · rw [if_pos h0, if_pos h0]
    obtain ⟨h1, h2⟩ := hok.add he h0
    exact ⟨⟨h1, by rw [len_ins]; omega⟩, fun o ho => by rw [h2]; exact ho⟩
  · rw [if_neg h0, if_neg h0]
    exact ⟨⟨hok, by omega⟩, fun o ho => ho⟩
theorem add_hd {n : Nat} (hok : OkQ ql) (he : ends (look ql) n a.up) : (look ql a.up).isSome = true → climb (look ql) n a.up = 0 ∧ ∀ i, i < n → climb (look ql) i a.up ≠ 0 := fun hs => by
  refine ⟨?_, fun i hi e => ?_⟩
  · match n, he with
    | 0, he => exact absurd he.1 (by rw [show climb (look ql) 0 a.up = a.up from rfl]; intro h; rw [h] at hs; cases hs)
    | n + 1, he =>
      have h1 := he.2 n (by omega)
      obtain ⟨x, hx⟩ := Option.isSome_iff_exists.1 h1
      have h2 := he.1
      rw [climb_s, upF, hx] at h2 ⊢
      rcases hok.clF hx with h | h
      · exact h
      · simp only [Option.getD_some] at h2
        rw [h2] at h; cases h
  · have := he.2 i hi
    rw [e, hok.zero] at this; cases this
end
theorem ch_oc {f : Int → Option Ac} {o : O} (h : Ch f o) {n m k : Nat} (hk : k < n) : oScL n m [o, .arr [.map k]] = true := by
  simp only [oScL]
  rw [h.sc]
  simp [oSc, scL, D.sc, hk]
set_option maxHeartbeats 4000000 in
theorem chartTells (l : List Act) (cl : Int) : Pure 3 [.sl (actsL l), .int .u8 cl] (.bool true) := by
  intro S tk
  have la := actsL_len l
  refine ACalls.fgo c3 rfl fun hS => ?_
  repeat' first | with_reducible refine fzD_ite (fun q => ?_) (fun q => ?_) | ((try conv => whnf); first
    | refine bs_d (fun q => ?_) (fun q => ?_)
    | refine bs_n ?_
    | refine bs_i (fun q => ?_) (fun q => ?_)
    | refine ckN (d := .po (S.length + 1) 0) (Jn := [.map ktI (entKv []) 0, .arr [.map S.length]]) rfl rfl (by have := new_at S tk; rw [List.append_nil, List.append_nil]; exact this) ?_
    | refine eqk rfl ?_
    | refine ffin _ rfl rfl hS (Sub.refl _) rfl ⟨?_, rfl, rfl⟩)
  refine floop (α := TX) rfl rfl hS (TX.P l) (fun s => l.length - s.i) (fun s => [(7, .d (.int .i64 s.i)), (6, .d (.sl (acsL s.q))), (5, .d (.po (S.length + 1) 0)), (0, .d (.sl (actsL l))), (1, .d (.int .u8 cl))]) (fun s => [s.o, .arr [.map S.length]]) (fun _ => []) ⟨0, [], .map ktI (entKv []) 0⟩ ⟨⟨Nat.zero_le _, Nat.zero_le _⟩, Nat.le_refl _, ok_nil, ch_new⟩ (fstep_sub ⟨Sub.refl _, Sub.nilE, Sub.refl _, Sub.refl _, Sub.refl _, trivial⟩) ?_
  intro s hs
  obtain ⟨h1, h2⟩ := hs.i
  have hq := hs.q
  have hok := hs.ok
  have hch := hs.ch
  have hql : s.q.length < 1000000 := by omega
  obtain ⟨⟨okS, lenS⟩, chS⟩ := shut_next (c := (l[s.i]!).a.code) hok
  have he := hok.low.ends (l[s.i]!).a.up
  obtain ⟨⟨okA, lenA⟩, chA⟩ := add_next (a := (l[s.i]!).a) hok he
  have hd := add_hd (a := (l[s.i]!).a) hok he
  have hn : dep (look s.q) (l[s.i]!).a.up < 1000000 := by have := depF_le (look s.q) 8 (l[s.i]!).a.up; unfold dep; omega
  have ap := add_p s.q hql (l[s.i]!).a _ hok.zero he (hok.cnt he)
  have sp := shut_p s.q hql hok.low hok.nd (l[s.i]!).a.code
  have kL : (s.q.map Ac.code).length < 1000000 := by rw [List.length_map]; exact hql
  have uS := hok.und hql (l[s.i]!).a.code
  have eS := hok.shutE (c := (l[s.i]!).a.code)
  repeat' first | with_reducible refine fzD_ite (fun q => ?_) (fun q => ?_) | ((try conv => whnf); first
    | refine bs_d (fun q => ?_) (fun q => ?_) <;> (try simp (disch := ((try unfold I64); omega)) only [wi64_id, td] at q)
    | refine bs_n ?_
    | refine bs_i (fun q => ?_) (fun q => ?_)
    | refine ck (by first | rfl | simp) rfl (head19) ?_
    | refine cq (head19) ?_
    | refine ck (by first | rfl | simp) rfl (side _) ?_
    | refine cq (side _) ?_
    | refine ck (by first | rfl | simp) rfl (side2 _) ?_
    | refine cq (side2 _) ?_
    | refine ck (by first | rfl | simp) rfl (ap) ?_
    | refine cq (ap) ?_
    | refine ck (by first | rfl | simp) rfl (sp) ?_
    | refine cq (sp) ?_
    | refine pK_i (iaD_act (i := s.i) (by first | rfl | omega | (refine Int.sub_eq_zero.mp ?_; simp (disch := ((try unfold I64); omega)) only [wi64_id, td]; omega)) (by omega)) ?_
    | (refine ckJE (k := 0) (ds' := [.po (S.length + 1) 0, acD (l[s.i]!).a]) rfl rfl (add_c (cid := S.length + 1) (mid := S.length + 0) (f := look s.q) hch (at_own rfl rfl) (at_own (k := 0) rfl rfl) (l[s.i]!).a _ hn hd) (SubL.refl _) ?_; rintro r o2 ⟨rfl, ch2⟩)
    | (refine ckJE (k := 0) (ds' := [.po (S.length + 1) 0, .int .i64 (l[s.i]!).a.code]) rfl rfl (shut_c (cid := S.length + 1) (mid := S.length + 0) (f := look s.q) hch (at_own rfl rfl) (at_own (k := 0) rfl rfl) hok.keys kL (l[s.i]!).a.code uS) (SubL.refl _) ?_; rintro r o2 ⟨rfl, ch2⟩; rw [eS])
    | refine ckA rfl rfl (tells_c (cid := S.length + 1) (mid := S.length + 0) (chS _ (by assumption)) (at_own rfl rfl) (at_own (k := 0) rfl rfl) okS (by omega) _) ?_
    | refine ckA rfl rfl (tells_c (cid := S.length + 1) (mid := S.length + 0) (chA _ (by assumption)) (at_own rfl rfl) (at_own (k := 0) rfl rfl) okA (by omega) _) ?_
    | refine eqk rfl ?_
    | refine ffin _ rfl rfl hS (Sub.refl _) rfl ⟨?_, rfl, rfl⟩)
  · rfl
  · conv => whnf
    refine fnext (α := TX) ⟨s.i + 1, if shutRE s.q (l[s.i]!).a.code = 0 then shR s.q (l[s.i]!).a.code else s.q, o2⟩ ⟨⟨by simp only; omega, by simp only; omega⟩, by simp only; omega, okS, chS _ ch2⟩ (by simp only; omega) ?_
    exact fstep_drop (J' := [o2, .arr [.map S.length]]) (Jx := [_]) (TK' := []) (TKx := []) rfl rfl ⟨Sub.int (by simp only; rw [wi64_id]; omega; unfold I64; omega), Sub.refl _, Sub.refl _, Sub.refl _, Sub.refl _, trivial⟩ (by simp [frSc, frD, FD.to, D.sc, sc_acsL, sc_actsL]) (ch_oc (chS _ ch2) (by simp only [List.length_cons, List.length_nil]; omega))
  · exact absurd trivial (by assumption)
  · conv => whnf
    refine fnext (α := TX) ⟨s.i + 1, addR s.q (dep (look s.q) (l[s.i]!).a.up) (l[s.i]!).a, o2⟩ ⟨⟨by simp only; omega, by simp only; omega⟩, by simp only; omega, okA, chA _ ch2⟩ (by simp only; omega) ?_
    exact fstep_drop (J' := [o2, .arr [.map S.length]]) (Jx := [_]) (TK' := []) (TKx := []) rfl rfl ⟨Sub.int (by simp only; rw [wi64_id]; omega; unfold I64; omega), Sub.refl _, Sub.refl _, Sub.refl _, Sub.refl _, trivial⟩ (by simp [frSc, frD, FD.to, D.sc, sc_acsL, sc_actsL]) (ch_oc (chA _ ch2) (by simp only [List.length_cons, List.length_nil]; omega))
  · exact absurd trivial (by assumption)
  · rfl
  · exact absurd trivial (by assumption)
  · rfl
  · exact absurd trivial (by assumption)
end Go.KL.Ythaoejicodhgaaa
