/- charts: all, the standard accounts, comparisons -/
import Derived.Test.YthaoejicodhgaaaCha
set_option linter.unusedVariables false
set_option linter.unusedSimpArgs false
set_option linter.unusedSectionVars false
set_option maxRecDepth 4000
namespace Go.KL.Ythaoejicodhgaaa
open Go Go.KL Go.RowKit Go.Proofs Go.Sort

theorem c20 : cFun E0.P 20 = some ⟨29, [(2, none)], .seq (.rg [⟨some 2, none, .mv (.k .nilsl)⟩]) (.seq (.seq (.rg [⟨some 6, none, .mv (.t 0)⟩, ⟨some 7, none, .call 55 [.t 6]⟩]) (.cond (.t 7) (.seq (.rg [⟨some 2, none, .mv (.k .nilsl)⟩]) .ret) .skip)) (.seq (.rg [⟨some 3, none, .mv (.k .nilsl)⟩]) (.seq (.seq (.rg [⟨some 8, none, .mv (.t 0)⟩, ⟨some 9, none, .nilck (.t 8)⟩, ⟨some 10, none, .fa 0 (.t 9)⟩, ⟨some 11, none, .ld 1 false (.t 10)⟩, ⟨some 12, none, .call 60 [.t 11]⟩, ⟨some 13, none, .len 1 (.t 12)⟩, ⟨some 14, none, .mv (.k (.int .i64 0))⟩]) (.block 0 (.loop (.seq (.rg [⟨some 15, none, .bin .lss .leaf (.t 14) (.t 13)⟩]) (.seq (.cond (.t 15) .skip (.exit 0)) (.seq (.block 1 (.seq (.rg [⟨some 16, none, .ia 1 (.t 12) (.t 14)⟩, ⟨some 17, none, .ld 1 false (.t 16)⟩, ⟨some 5, none, .mv (.t 17)⟩]) (.rg [⟨some 18, none, .mv (.t 3)⟩, ⟨some 19, none, .mv (.t 0)⟩, ⟨some 20, none, .nilck (.t 19)⟩, ⟨some 21, none, .fa 0 (.t 20)⟩, ⟨some 22, none, .ld 1 false (.t 21)⟩, ⟨some 23, none, .mv (.t 5)⟩, ⟨some 24, none, .mget (KT.lf (KLf.i .i64)) (.agg [.int .i64 0, .int .i64 0, .int .u8 0, .str ⟨#[]⟩, .bool false]) false (.t 22) (.t 23)⟩, ⟨some 25, none, .buildS 1 5 [.int .i64 0, .int .i64 0, .int .u8 0, .str ⟨#[]⟩, .bool false] [(0, .t 24)] 27⟩, ⟨some 26, none, .app 25 27 5 48 [.int .i64 0, .int .i64 0, .int .u8 0, .str ⟨#[]⟩, .bool false] (.t 18) (.t 25)⟩, ⟨some 3, none, .mv (.t 26)⟩]))) (.rg [⟨some 27, none, .bin .add .leaf (.t 14) (.k (.int .i64 1))⟩, ⟨some 14, none, .mv (.t 27)⟩]))))))) (.seq (.rg [⟨some 28, none, .mv (.t 3)⟩, ⟨some 2, none, .mv (.t 28)⟩]) .ret))))⟩ := by kernel_rfl
theorem c25 : cFun E0.P 25 = some ⟨8, [(0, none)], .seq (.rg [⟨some 0, none, .mv (.k .nilsl)⟩]) (.seq (.rg [⟨some 1, none, .build [.int .i64 0, .int .i64 0, .int .u8 0, .str ⟨#[]⟩, .bool false] [(0, 1, .k (.int .i64 1100)), (2, 1, .k (.int .u8 1)), (3, 1, .k (.str ⟨#[67, 97, 115, 104]⟩))]⟩, ⟨some 2, none, .build [.int .i64 0, .int .i64 0, .int .u8 0, .str ⟨#[]⟩, .bool false] [(0, 1, .k (.int .i64 1200)), (2, 1, .k (.int .u8 1)), (3, 1, .k (.str ⟨#[82, 101, 99, 101, 105, 118, 97, 98, 108, 101]⟩))]⟩, ⟨some 3, none, .build [.int .i64 0, .int .i64 0, .int .u8 0, .str ⟨#[]⟩, .bool false] [(0, 1, .k (.int .i64 2100)), (2, 1, .k (.int .u8 2)), (3, 1, .k (.str ⟨#[68, 101, 102, 101, 114, 114, 101, 100]⟩))]⟩, ⟨some 4, none, .build [.int .i64 0, .int .i64 0, .int .u8 0, .str ⟨#[]⟩, .bool false] [(0, 1, .k (.int .i64 2200)), (2, 1, .k (.int .u8 2)), (3, 1, .k (.str ⟨#[85, 110, 97, 112, 112, 108, 105, 101, 100]⟩))]⟩, ⟨some 5, none, .build [.int .i64 0, .int .i64 0, .int .u8 0, .str ⟨#[]⟩, .bool false] [(0, 1, .k (.int .i64 3100)), (2, 1, .k (.int .u8 3)), (3, 1, .k (.str ⟨#[82, 101, 118, 101, 110, 117, 101]⟩))]⟩, ⟨some 6, none, .build [.int .i64 0, .int .i64 0, .int .u8 0, .str ⟨#[]⟩, .bool false] [(0, 1, .k (.int .i64 4100)), (2, 1, .k (.int .u8 4)), (3, 1, .k (.str ⟨#[76, 111, 115, 116]⟩))]⟩, ⟨some 7, none, .buildS 6 5 [.int .i64 0, .int .i64 0, .int .u8 0, .str ⟨#[]⟩, .bool false] [(0, .t 1), (1, .t 2), (2, .t 3), (3, .t 4), (4, .t 5), (5, .t 6)] 27⟩, ⟨some 0, none, .mv (.t 7)⟩]) .ret)⟩ := by kernel_rfl
theorem c51 : cFun E0.P 51 = some ⟨8, [(0, none)], .seq (.rg [⟨some 0, none, .mv (.k .nilsl)⟩]) (.seq (.rg [⟨some 1, none, .build [.int .i64 0, .int .i64 0, .int .u8 0, .str ⟨#[]⟩, .bool false] [(0, 1, .k (.int .i64 1100)), (2, 1, .k (.int .u8 1)), (3, 1, .k (.str ⟨#[67, 97, 115, 104]⟩))]⟩, ⟨some 2, none, .build [.int .i64 0, .int .i64 0, .int .u8 0, .str ⟨#[]⟩, .bool false] [(0, 1, .k (.int .i64 1200)), (2, 1, .k (.int .u8 1)), (3, 1, .k (.str ⟨#[82, 101, 99, 101, 105, 118, 97, 98, 108, 101]⟩))]⟩, ⟨some 3, none, .build [.int .i64 0, .int .i64 0, .int .u8 0, .str ⟨#[]⟩, .bool false] [(0, 1, .k (.int .i64 2100)), (2, 1, .k (.int .u8 2)), (3, 1, .k (.str ⟨#[68, 101, 102, 101, 114, 114, 101, 100]⟩))]⟩, ⟨some 4, none, .build [.int .i64 0, .int .i64 0, .int .u8 0, .str ⟨#[]⟩, .bool false] [(0, 1, .k (.int .i64 2200)), (2, 1, .k (.int .u8 2)), (3, 1, .k (.str ⟨#[85, 110, 97, 112, 112, 108, 105, 101, 100]⟩))]⟩, ⟨some 5, none, .build [.int .i64 0, .int .i64 0, .int .u8 0, .str ⟨#[]⟩, .bool false] [(0, 1, .k (.int .i64 3100)), (2, 1, .k (.int .u8 3)), (3, 1, .k (.str ⟨#[82, 101, 118, 101, 110, 117, 101]⟩))]⟩, ⟨some 6, none, .build [.int .i64 0, .int .i64 0, .int .u8 0, .str ⟨#[]⟩, .bool false] [(0, 1, .k (.int .i64 4100)), (2, 1, .k (.int .u8 4)), (3, 1, .k (.str ⟨#[76, 111, 115, 116]⟩))]⟩, ⟨some 7, none, .buildS 6 5 [.int .i64 0, .int .i64 0, .int .u8 0, .str ⟨#[]⟩, .bool false] [(0, .t 1), (1, .t 2), (2, .t 3), (3, .t 4), (4, .t 5), (5, .t 6)] 27⟩, ⟨some 0, none, .mv (.t 7)⟩]) .ret)⟩ := by kernel_rfl
theorem c50 : cFun E0.P 50 = some ⟨26, [(4, none)], .seq (.rg [⟨some 4, none, .mv (.k (.bool false))⟩]) (.seq (.seq (.rg [⟨some 6, none, .mv (.t 0)⟩, ⟨some 7, none, .len 1 (.t 6)⟩, ⟨some 8, none, .mv (.t 1)⟩, ⟨some 9, none, .len 1 (.t 8)⟩, ⟨some 10, none, .bin .neq .leaf (.t 7) (.t 9)⟩]) (.cond (.t 10) (.seq (.rg [⟨some 4, none, .mv (.k (.bool false))⟩]) .ret) .skip)) (.seq (.seq (.rg [⟨some 5, none, .mv (.k (.int .i64 0))⟩]) (.block 0 (.loop (.seq (.seq (.rg [⟨some 11, none, .mv (.t 5)⟩, ⟨some 12, none, .mv (.t 0)⟩, ⟨some 13, none, .len 1 (.t 12)⟩, ⟨some 14, none, .bin .lss .leaf (.t 11) (.t 13)⟩]) (.cond (.t 14) .skip (.exit 0))) (.seq (.block 1 (.seq (.rd [(⟨some 17, none, .mv (.t 0)⟩, none), (⟨some 18, none, .mv (.t 5)⟩, none), (⟨some 19, none, .ia 5 (.t 17) (.t 18)⟩, none), (⟨some 20, none, .ld 5 true (.t 19)⟩, none), (⟨some 21, none, .mv (.t 1)⟩, none), (⟨some 22, none, .mv (.t 5)⟩, none), (⟨some 23, none, .ia 5 (.t 21) (.t 22)⟩, none), (⟨some 24, none, .ld 5 true (.t 23)⟩, none), (⟨some 25, none, .bin .neq (.agg [(0, .i), (1, .i), (2, .i), (3, .s), (4, .b)]) (.t 20) (.t 24)⟩, none)]) (.cond (.t 25) (.seq (.rg [⟨some 4, none, .mv (.k (.bool false))⟩]) .ret) .skip))) (.rg [⟨some 15, none, .mv (.t 5)⟩, ⟨some 16, none, .bin .add .leaf (.t 15) (.k (.int .i64 1))⟩, ⟨some 5, none, .mv (.t 16)⟩])))))) (.seq (.rg [⟨some 4, none, .mv (.k (.bool true))⟩]) .ret)))⟩ := by kernel_rfl
theorem c49 : cFun E0.P 49 = some ⟨26, [(4, none)], .seq (.rg [⟨some 4, none, .mv (.k (.bool false))⟩]) (.seq (.seq (.rg [⟨some 6, none, .mv (.t 0)⟩, ⟨some 7, none, .len 1 (.t 6)⟩, ⟨some 8, none, .mv (.t 1)⟩, ⟨some 9, none, .len 1 (.t 8)⟩, ⟨some 10, none, .bin .neq .leaf (.t 7) (.t 9)⟩]) (.cond (.t 10) (.seq (.rg [⟨some 4, none, .mv (.k (.bool false))⟩]) .ret) .skip)) (.seq (.seq (.rg [⟨some 5, none, .mv (.k (.int .i64 0))⟩]) (.block 0 (.loop (.seq (.seq (.rg [⟨some 11, none, .mv (.t 5)⟩, ⟨some 12, none, .mv (.t 0)⟩, ⟨some 13, none, .len 1 (.t 12)⟩, ⟨some 14, none, .bin .lss .leaf (.t 11) (.t 13)⟩]) (.cond (.t 14) .skip (.exit 0))) (.seq (.block 1 (.seq (.rd [(⟨some 17, none, .mv (.t 0)⟩, none), (⟨some 18, none, .mv (.t 5)⟩, none), (⟨some 19, none, .ia 1 (.t 17) (.t 18)⟩, none), (⟨some 20, none, .ld 1 false (.t 19)⟩, none), (⟨some 21, none, .mv (.t 1)⟩, none), (⟨some 22, none, .mv (.t 5)⟩, none), (⟨some 23, none, .ia 1 (.t 21) (.t 22)⟩, none), (⟨some 24, none, .ld 1 false (.t 23)⟩, none), (⟨some 25, none, .bin .neq .leaf (.t 20) (.t 24)⟩, none)]) (.cond (.t 25) (.seq (.rg [⟨some 4, none, .mv (.k (.bool false))⟩]) .ret) .skip))) (.rg [⟨some 15, none, .mv (.t 5)⟩, ⟨some 16, none, .bin .add .leaf (.t 15) (.k (.int .i64 1))⟩, ⟨some 5, none, .mv (.t 16)⟩])))))) (.seq (.rg [⟨some 4, none, .mv (.k (.bool true))⟩]) .ret)))⟩ := by kernel_rfl

def acsL (l : List Ac) : List (List D) := l.map Ac.cs
theorem acsL_len (l : List Ac) : (acsL l).length = l.length := List.length_map ..
abbrev stdA : List Ac := [⟨1100, 0, 1, ⟨#[67, 97, 115, 104]⟩, false⟩, ⟨1200, 0, 1, ⟨#[82, 101, 99, 101, 105, 118, 97, 98, 108, 101]⟩, false⟩, ⟨2100, 0, 2, ⟨#[68, 101, 102, 101, 114, 114, 101, 100]⟩, false⟩,
  ⟨2200, 0, 2, ⟨#[85, 110, 97, 112, 112, 108, 105, 101, 100]⟩, false⟩, ⟨3100, 0, 3, ⟨#[82, 101, 118, 101, 110, 117, 101]⟩, false⟩, ⟨4100, 0, 4, ⟨#[76, 111, 115, 116]⟩, false⟩]
theorem std1 : Pure 25 [] (.sl (acsL stdA)) := by
  intro S tk
  refine ACalls.fgo c25 rfl fun hS => ?_
  repeat' first | with_reducible refine fzD_ite (fun q => ?_) (fun q => ?_) | ((try conv => whnf); first
    | refine bs_d (fun q => ?_) (fun q => ?_)
    | refine bs_n ?_
    | refine bs_i (fun q => ?_) (fun q => ?_)
    | refine eqk rfl ?_
    | refine ffin _ rfl rfl hS (Sub.refl _) rfl ⟨?_, rfl, rfl⟩)
  all_goals rfl
theorem std2 : Pure 51 [] (.sl (acsL stdA)) := by
  intro S tk
  refine ACalls.fgo c51 rfl fun hS => ?_
  repeat' first | with_reducible refine fzD_ite (fun q => ?_) (fun q => ?_) | ((try conv => whnf); first
    | refine bs_d (fun q => ?_) (fun q => ?_)
    | refine bs_n ?_
    | refine bs_i (fun q => ?_) (fun q => ?_)
    | refine eqk rfl ?_
    | refine ffin _ rfl rfl hS (Sub.refl _) rfl ⟨?_, rfl, rfl⟩)
  all_goals rfl

theorem take_snA {α : Type} [Inhabited α] {l : List α} {i : Nat} (h : i < l.length) : l.take (i + 1) = l.take i ++ [l[i]!] := by
  rw [List.take_add_one, List.getElem?_eq_getElem h, getElem!_pos l i h]; rfl
theorem take_eq {α : Type} [Inhabited α] {a b : List α} {i : Nat} (ha : i < a.length) (hb : i < b.length) (h : a.take i = b.take i) (e : a[i]! = b[i]!) : a.take (i + 1) = b.take (i + 1) := by
  rw [take_snA ha, take_snA hb, h, e]
theorem ne_of_at {α : Type} [Inhabited α] {a b : List α} {i : Nat} (h : ¬ a[i]! = b[i]!) : ¬ a = b := fun e => h (by rw [e])
theorem iaD_i {l : List Int} {i : Nat} {n : Int} (h : n = i) (hi : i < l.length) : iaD 1 (.sl (i64s l)) (.int .i64 n) = some (.pe [.int .i64 l[i]!] 0) := by
  subst h
  exact iaD_i64s (by omega) (by rw [Int.toNat_natCast, List.getElem?_eq_getElem hi, getElem!_pos l i hi])
theorem iaD_ac {l : List Ac} {i : Nat} {n : Int} (h : n = i) (hi : i < l.length) : iaD 5 (.sl (acsL l)) (.int .i64 n) = some (.pe (l[i]!).cs 0) := by
  subst h
  exact iaD_map (f := Ac.cs) (by omega) (by rw [Int.toNat_natCast, List.getElem?_eq_getElem hi, getElem!_pos l i hi]) rfl
def acEq (x y : Ac) : Bool := decide (x.code = y.code) && (decide (x.up = y.up) && (decide (x.cl = y.cl) && (decide (x.nm = y.nm) && (x.sh == y.sh && true))))
theorem ac_t {x y : Ac} (h : acEq x y = true) : x = y := by
  simp only [acEq, Bool.and_true, Bool.and_eq_true, decide_eq_true_eq, beq_iff_eq] at h
  cases x; cases y
  simp_all
theorem ac_f {x y : Ac} (h : acEq x y = false) : ¬ x = y := fun e => by subst e; simp [acEq] at h
set_option maxHeartbeats 1000000 in
theorem sameI (a b : List Int) (ha : a.length < 4611686018427387904) (hb : b.length < 4611686018427387904) : Pure 49 [.sl (i64s a), .sl (i64s b)] (.bool (decide (a = b))) := by
  intro S tk
  have la := i64s_len a
  have lb := i64s_len b
  refine ACalls.fgo c49 rfl fun hS => ?_
  repeat' first | with_reducible refine fzD_ite (fun q => ?_) (fun q => ?_) | ((try conv => whnf); first
    | refine bs_d (fun q => ?_) (fun q => ?_)
    | refine bs_n ?_
    | refine bs_i (fun q => ?_) (fun q => ?_)
    | refine eqk rfl ?_
    | refine ffin _ rfl rfl hS (Sub.refl _) rfl ⟨?_, rfl, rfl⟩)
  rotate_left
  · exact congrArg D.bool (decide_eq_false (fun e => by subst e; omega)).symm
  conv => whnf
  have hl : a.length = b.length := by omega
  refine floop (α := Nat) rfl rfl hS (fun i => i ≤ a.length ∧ a.take i = b.take i) (fun i => a.length - i) (fun i => [(5, .d (.int .i64 i)), (0, .d (.sl (i64s a))), (1, .d (.sl (i64s b)))]) (fun _ => []) (fun _ => []) 0 ⟨Nat.zero_le _, rfl⟩ (fstep_sub ⟨Sub.refl _, Sub.refl _, Sub.refl _, trivial⟩) ?_
  rintro i ⟨h1, h2⟩
  repeat' first | with_reducible refine fzD_ite (fun q => ?_) (fun q => ?_) | ((try conv => whnf); first
    | refine bs_d (fun q => ?_) (fun q => ?_) <;> (try simp (disch := ((try unfold I64); omega)) only [wi64_id, td] at q)
    | refine bs_n ?_
    | refine bs_i (fun q => ?_) (fun q => ?_)
    | refine pK_i (iaD_i (i := i) (by first | rfl | omega | (refine Int.sub_eq_zero.mp ?_; simp (disch := ((try unfold I64); omega)) only [wi64_id, td]; omega)) (by omega)) ?_
    | refine eqk rfl ?_
    | refine ffin _ rfl rfl hS (Sub.refl _) rfl ⟨?_, rfl, rfl⟩)
  · conv => whnf
    refine fnext (α := Nat) (i + 1) ⟨by omega, take_eq (by omega) (by omega) h2 (by assumption)⟩ (by omega) (fstep_sub ⟨Sub.int (by rw [wi64_id]; omega; unfold I64; omega), Sub.refl _, Sub.refl _, trivial⟩)
  · exact congrArg D.bool (decide_eq_false (ne_of_at (i := i) (by assumption))).symm
  · rw [List.take_of_length_le (by omega), List.take_of_length_le (by omega)] at h2
    exact congrArg D.bool (decide_eq_true h2).symm
set_option maxHeartbeats 1000000 in
theorem sameA (a b : List Ac) (ha : a.length < 4611686018427387904) (hb : b.length < 4611686018427387904) : Pure 50 [.sl (acsL a), .sl (acsL b)] (.bool (decide (a = b))) := by
  intro S tk
  have la := acsL_len a
  have lb := acsL_len b
  refine ACalls.fgo c50 rfl fun hS => ?_
  repeat' first | with_reducible refine fzD_ite (fun q => ?_) (fun q => ?_) | ((try conv => whnf); first
    | refine bs_d (fun q => ?_) (fun q => ?_)
    | refine bs_n ?_
    | refine bs_i (fun q => ?_) (fun q => ?_)
    | refine eqk rfl ?_
    | refine ffin _ rfl rfl hS (Sub.refl _) rfl ⟨?_, rfl, rfl⟩)
  rotate_left
  · exact congrArg D.bool (decide_eq_false (fun e => by subst e; omega)).symm
  conv => whnf
  have hl : a.length = b.length := by omega
  refine floop (α := Nat) rfl rfl hS (fun i => i ≤ a.length ∧ a.take i = b.take i) (fun i => a.length - i) (fun i => [(5, .d (.int .i64 i)), (0, .d (.sl (acsL a))), (1, .d (.sl (acsL b)))]) (fun _ => []) (fun _ => []) 0 ⟨Nat.zero_le _, rfl⟩ (fstep_sub ⟨Sub.refl _, Sub.refl _, Sub.refl _, trivial⟩) ?_
  rintro i ⟨h1, h2⟩
  repeat' first | with_reducible refine fzD_ite (fun q => ?_) (fun q => ?_) | ((try conv => whnf); first
    | refine bs_d (fun q => ?_) (fun q => ?_) <;> (try simp (disch := ((try unfold I64); omega)) only [wi64_id, td] at q)
    | refine bs_n ?_
    | refine bs_i (fun q => ?_) (fun q => ?_)
    | refine pK_i (iaD_ac (i := i) (by first | rfl | omega | (refine Int.sub_eq_zero.mp ?_; simp (disch := ((try unfold I64); omega)) only [wi64_id, td]; omega)) (by omega)) ?_
    | refine eqk rfl ?_
    | refine ffin _ rfl rfl hS (Sub.refl _) rfl ⟨?_, rfl, rfl⟩)
  · conv => whnf
    refine fnext (α := Nat) (i + 1) ⟨by omega, take_eq (by omega) (by omega) h2 (ac_t (by assumption))⟩ (by omega) (fstep_sub ⟨Sub.int (by rw [wi64_id]; omega; unfold I64; omega), Sub.refl _, Sub.refl _, trivial⟩)
  · exact congrArg D.bool (decide_eq_false (ne_of_at (i := i) (ac_f (by assumption)))).symm
  · rw [List.take_of_length_le (by omega), List.take_of_length_le (by omega)] at h2
    exact congrArg D.bool (decide_eq_true h2).symm
section
variable {cid mid clk : Nat} {S : List O} {tk : Tks} {f : Int → Option Ac} {l : List Ent} {L : List Int}
def allL (f : Int → Option Ac) (L : List Int) : List Ac := L.map fun k => (f k).getD noAc
theorem sc_acsL (n m : Nat) : ∀ (l : List Ac), scLL n m (acsL l) = true
  | [] => rfl
  | x :: r => by
    have := sc_acsL n m r
    unfold acsL at this ⊢
    simp only [List.map_cons, scLL, this, Bool.and_true]; rfl
theorem acsL_app (a b : List Ac) : acsL (a ++ b) = acsL a ++ acsL b := List.map_append
set_option maxHeartbeats 1000000 in
theorem all_at (h : ChR cid mid S f l clk) (hN : l.length < 1000000) (hL : keysOf f L) (hLl : L.length < 1000000) :
    ACalls E0 20 [.po cid 0] S tk (fun r S' tk' => r = .sl (acsL (allL f L)) ∧ S' = S ∧ tk' = tk) := by
  have hlen := i64s_len L
  refine ACalls.fgo c20 rfl fun hS => ?_
  repeat' first | with_reducible refine fzD_ite (fun q => ?_) (fun q => ?_) | ((try conv => whnf); first
    | refine bs_d (fun q => ?_) (fun q => ?_)
    | refine bs_n ?_
    | refine bs_i (fun q => ?_) (fun q => ?_)
    | refine ckA rfl rfl (none_at h.app) ?_
    | refine pK_i (ldO_old h.c rfl) ?_
    | refine ckA rfl rfl (keys_at h.app (by omega) hL) ?_
    | refine eqk rfl ?_
    | refine ffin _ rfl rfl hS (Sub.refl _) rfl ⟨?_, rfl, rfl⟩)
  refine floop (α := Nat) rfl rfl hS (fun i => i ≤ L.length) (fun i => L.length - i) (fun i => [(14, .d (.int .i64 i)), (13, .d (.int .i64 L.length)), (12, .d (.sl (i64s L))), (0, .d (.po cid 0)), (3, .d (.gsl (acsL (allL f (L.take i))) tk.length))]) (fun _ => []) (fun i => [((acsL (allL f (L.take i))).length, 27, 5)]) 0 (Nat.zero_le _) ?_ ?_
  · exact fstep_tok (t := 3) 27 5 (Or.inl rfl) ⟨Sub.refl _, Sub.int (by rw [hlen]), Sub.refl _, Sub.refl _, Sub.refl _, trivial⟩
  intro i h1
  have step : i < L.length → acsL (allL f (L.take i)) ++ [((f L[i]!).getD noAc).cs] = acsL (allL f (L.take (i + 1))) := fun hi => by
    rw [take_snA hi, allL, allL, List.map_append, acsL_app]; rfl
  have ll : (acsL (allL f (L.take i))).length ≤ 1000000 := by rw [acsL_len, allL, List.length_map]; exact Nat.le_trans (List.length_take_le ..) (by omega)
  repeat' first | with_reducible refine fzD_ite (fun q => ?_) (fun q => ?_) | ((try conv => whnf); first
    | refine bs_d (fun q => ?_) (fun q => ?_) <;> (try simp (disch := ((try unfold I64); omega)) only [wi64_id, td] at q)
    | refine bs_n ?_
    | refine bs_i (fun q => ?_) (fun q => ?_)
    | refine pK_i (iaD_i (i := i) (by first | rfl | omega | (refine Int.sub_eq_zero.mp ?_; simp (disch := ((try unfold I64); omega)) only [wi64_id, td]; omega)) (by omega)) ?_
    | refine pK_i (ldO_old h.c rfl) ?_
    | refine pK_i (mgA h _) ?_
    | refine gk_app (t := 0) rfl rfl rfl rfl rfl (by simp [Ac.cs]) ⟨by simp [maxLen]; omega, by simp; omega⟩ ?_
    | refine ffin (.sl (acsL (allL f (L.take i)))) rfl rfl hS (Sub.rd rfl) ?_ ⟨?_, rfl, rfl⟩
    | refine eqk rfl ?_
    | refine ffin _ rfl rfl hS (Sub.refl _) rfl ⟨?_, rfl, rfl⟩)
  · conv => whnf
    refine fnext (α := Nat) (i + 1) (by omega) (by omega) ?_
    refine fstep_K (TK' := [((acsL (allL f (L.take (i + 1)))).length, 27, 5)]) ?_ ⟨Sub.int (by rw [wi64_id]; omega; unfold I64; omega), Sub.refl _, Sub.refl _, Sub.refl _, Sub.of ?_, trivial⟩
    · rw [← step (by omega)]; rfl
    · rw [← step (by omega)]; rfl
  · exact sc_acsL ..
  · rw [List.take_of_length_le (by omega)]
theorem all_nil : Pure 20 [.nilp] (.sl []) := by
  intro S tk
  refine ACalls.fgo c20 rfl fun hS => ?_
  repeat' first | with_reducible refine fzD_ite (fun q => ?_) (fun q => ?_) | ((try conv => whnf); first
    | refine bs_d (fun q => ?_) (fun q => ?_)
    | refine bs_n ?_
    | refine bs_i (fun q => ?_) (fun q => ?_)
    | refine ck (by first | rfl | simp) rfl (none_nil) ?_
    | refine cq (none_nil) ?_
    | refine ffin (.sl []) rfl rfl hS Sub.nilE rfl ⟨?_, rfl, rfl⟩
    | refine eqk rfl ?_
    | refine ffin _ rfl rfl hS (Sub.refl _) rfl ⟨?_, rfl, rfl⟩)
  all_goals rfl
theorem all_zero (h : S[cid]? = some (.arr [.nilmap])) : ACalls E0 20 [.po cid 0] S tk (fun r S' tk' => r = .sl [] ∧ S' = S ∧ tk' = tk) := by
  refine ACalls.fgo c20 rfl fun hS => ?_
  repeat' first | with_reducible refine fzD_ite (fun q => ?_) (fun q => ?_) | ((try conv => whnf); first
    | refine bs_d (fun q => ?_) (fun q => ?_)
    | refine bs_n ?_
    | refine bs_i (fun q => ?_) (fun q => ?_)
    | refine ckA rfl rfl (none_zero (at_old h)) ?_
    | refine ffin (.sl []) rfl rfl hS Sub.nilE rfl ⟨?_, rfl, rfl⟩
    | refine eqk rfl ?_
    | refine ffin _ rfl rfl hS (Sub.refl _) rfl ⟨?_, rfl, rfl⟩)
  all_goals rfl
end
end Go.KL.Ythaoejicodhgaaa

/- charts: what the document fixes -/
set_option linter.unusedVariables false
set_option linter.unusedSimpArgs false
set_option linter.unusedSectionVars false
set_option maxRecDepth 4000
namespace Go.KL.Ythaoejicodhgaaa
open Go Go.KL Go.RowKit Go.Proofs Go.Sort

theorem c12 : cFun E0.P 12 = some ⟨76, [(0, none)], .seq (.rg [⟨some 0, none, .mv (.k (.bool false))⟩]) (.seq (.rg [⟨some 10, none, .call 11 []⟩, ⟨some 1, none, .mv (.t 10)⟩]) (.seq (.rg [⟨some 11, none, .mv (.t 1)⟩, ⟨some 12, none, .build [.int .i64 0, .int .i64 0, .int .u8 0, .str ⟨#[]⟩, .bool false] [(0, 1, .k (.int .i64 1)), (2, 1, .k (.int .u8 1)), (3, 1, .k (.str ⟨#[97]⟩))]⟩, ⟨some 13, none, .call 16 [.t 11, .t 12]⟩, ⟨some 2, none, .mv (.t 13)⟩]) (.seq (.rg [⟨some 14, none, .mv (.t 1)⟩, ⟨some 15, none, .build [.int .i64 0, .int .i64 0, .int .u8 0, .str ⟨#[]⟩, .bool false] [(0, 1, .k (.int .i64 2)), (1, 1, .k (.int .i64 1)), (2, 1, .k (.int .u8 1)), (3, 1, .k (.str ⟨#[98]⟩))]⟩, ⟨some 16, none, .call 16 [.t 14, .t 15]⟩, ⟨some 3, none, .mv (.t 16)⟩]) (.seq (.rg [⟨some 17, none, .mv (.t 1)⟩, ⟨some 18, none, .build [.int .i64 0, .int .i64 0, .int .u8 0, .str ⟨#[]⟩, .bool false] [(0, 1, .k (.int .i64 3)), (1, 1, .k (.int .i64 2)), (2, 1, .k (.int .u8 3)), (3, 1, .k (.str ⟨#[99]⟩))]⟩, ⟨some 19, none, .call 16 [.t 17, .t 18]⟩, ⟨some 4, none, .mv (.t 19)⟩]) (.seq (.rg [⟨some 20, none, .mv (.t 1)⟩, ⟨some 21, none, .call 21 [.t 20, .k (.int .i64 1)]⟩, ⟨some 5, none, .mv (.t 21)⟩]) (.seq (.rg [⟨some 22, none, .mv (.t 1)⟩, ⟨some 23, none, .call 14 [.t 22, .k (.int .i64 1)]⟩, ⟨some 24, none, .mv (.t 1)⟩, ⟨some 25, none, .call 14 [.t 24, .k (.int .i64 2)]⟩, ⟨some 26, none, .mv (.t 1)⟩, ⟨some 27, none, .call 14 [.t 26, .k (.int .i64 1)]⟩, ⟨some 6, none, .mv (.t 23)⟩, ⟨some 7, none, .mv (.t 25)⟩, ⟨some 8, none, .mv (.t 27)⟩]) (.seq (.rg [⟨some 28, none, .mv (.t 1)⟩, ⟨some 29, none, .build [.int .i64 0, .int .i64 0, .int .u8 0, .str ⟨#[]⟩, .bool false] [(0, 1, .k (.int .i64 4)), (1, 1, .k (.int .i64 1)), (2, 1, .k (.int .u8 1)), (3, 1, .k (.str ⟨#[100]⟩))]⟩, ⟨some 30, none, .call 16 [.t 28, .t 29]⟩, ⟨some 9, none, .mv (.t 30)⟩]) (.seq (.rg [⟨some 31, none, .mv (.t 2)⟩, ⟨some 32, none, .bin .eql .leaf (.t 31) (.k (.int .i64 0))⟩, ⟨some 33, none, .mv (.t 32)⟩, ⟨some 34, some (33, true), .mv (.t 3)⟩, ⟨some 35, some (33, true), .bin .eql .leaf (.t 34) (.k (.int .i64 0))⟩, ⟨some 36, none, .pick (.t 33) (.t 35) (.k (.bool false))⟩, ⟨some 37, none, .mv (.t 36)⟩, ⟨some 38, some (37, true), .mv (.t 4)⟩, ⟨some 39, some (37, true), .bin .eql .leaf (.t 38) (.k (.int .i64 9))⟩, ⟨some 40, none, .pick (.t 37) (.t 39) (.k (.bool false))⟩, ⟨some 41, none, .mv (.t 40)⟩, ⟨some 42, some (41, true), .mv (.t 5)⟩, ⟨some 43, some (41, true), .buildS 2 1 [.int .i64 0] [(0, .k (.int .i64 1)), (1, .k (.int .i64 2))] 3⟩, ⟨some 44, some (41, true), .call 49 [.t 42, .t 43]⟩, ⟨some 45, none, .pick (.t 41) (.t 44) (.k (.bool false))⟩, ⟨some 46, none, .mv (.t 45)⟩, ⟨some 47, some (46, true), .mv (.t 1)⟩, ⟨some 48, some (46, true), .call 24 [.t 47, .k (.int .i64 1)]⟩, ⟨some 49, some (46, true), .un .not (.t 48)⟩, ⟨some 50, none, .pick (.t 46) (.t 49) (.k (.bool false))⟩, ⟨some 51, none, .mv (.t 50)⟩, ⟨some 52, some (51, true), .mv (.t 1)⟩, ⟨some 53, some (51, true), .call 24 [.t 52, .k (.int .i64 2)]⟩, ⟨some 54, none, .pick (.t 51) (.t 53) (.k (.bool false))⟩, ⟨some 55, none, .mv (.t 54)⟩, ⟨some 56, some (55, true), .mv (.t 6)⟩, ⟨some 57, some (55, true), .bin .eql .leaf (.t 56) (.k (.int .i64 9))⟩, ⟨some 58, none, .pick (.t 55) (.t 57) (.k (.bool false))⟩, ⟨some 59, none, .mv (.t 58)⟩, ⟨some 60, some (59, true), .mv (.t 7)⟩, ⟨some 61, some (59, true), .bin .eql .leaf (.t 60) (.k (.int .i64 0))⟩, ⟨some 62, none, .pick (.t 59) (.t 61) (.k (.bool false))⟩, ⟨some 63, none, .mv (.t 62)⟩, ⟨some 64, some (63, true), .mv (.t 8)⟩, ⟨some 65, some (63, true), .bin .eql .leaf (.t 64) (.k (.int .i64 0))⟩, ⟨some 66, none, .pick (.t 63) (.t 65) (.k (.bool false))⟩, ⟨some 67, none, .mv (.t 66)⟩, ⟨some 68, some (67, true), .mv (.t 9)⟩, ⟨some 69, some (67, true), .bin .eql .leaf (.t 68) (.k (.int .i64 9))⟩, ⟨some 70, none, .pick (.t 67) (.t 69) (.k (.bool false))⟩, ⟨some 71, none, .mv (.t 70)⟩, ⟨some 72, some (71, true), .call 25 []⟩, ⟨some 73, some (71, true), .call 51 []⟩, ⟨some 74, some (71, true), .call 50 [.t 72, .t 73]⟩, ⟨some 75, none, .pick (.t 71) (.t 74) (.k (.bool false))⟩, ⟨some 0, none, .mv (.t 75)⟩]) .ret))))))))⟩ := by kernel_rfl

def upd (f : Int → Option Ac) (k : Int) (a : Ac) : Int → Option Ac := fun j => if j = k then some a else f j
/-- the object is a map that has what f tells -/
def Ch (f : Int → Option Ac) (o : O) : Prop := ∃ l clk, o = .map ktI (entKv l) clk ∧ MapR acD l clk f
def addF (f : Int → Option Ac) (n : Nat) (a : Ac) : Int → Option Ac := if addE f n a = 0 then upd f a.code a else f
def shutF (f : Int → Option Ac) (U : List Int) (c : Int) : Int → Option Ac := if shutE f U c = 0 then upd f c { (f c).getD noAc with sh := true } else f
theorem MapR.len {l : List Ent} {clk : Nat} {f : Int → Option Ac} {L : List Int} (h : MapR acD l clk f) (hL : keysOf f L) : l.length = L.length := by
  have : (l.map (·.1)).Perm L := (List.perm_ext_iff_of_nodup h.nd (hL.1.imp fun h => by omega)).2 fun k => by rw [hL.2, h.mem]
  simpa using this.length_eq
section
variable {cid mid : Nat} {S J : List O} {tk : Tks} {f : Int → Option Ac} {o : O} {L : List Int}
theorem Ch.at (h : Ch f o) (hc : S[cid]? = some (.arr [.map mid])) (hm : S[mid]? = some o) : ∃ l clk, o = .map ktI (entKv l) clk ∧ ChR cid mid S f l clk := by
  obtain ⟨l, clk, rfl, hr⟩ := h
  exact ⟨l, clk, rfl, hc, hm, hr⟩
theorem Ch.sc (h : Ch f o) (n m : Nat) : oSc n m o = true := by
  obtain ⟨l, clk, rfl, hr⟩ := h
  exact hr.scA n m
theorem ch_new : Ch (fun _ => none) (.map ktI (entKv []) 0) := ⟨[], 0, rfl, MapR.empty _⟩
theorem add_c (h : Ch f o) (hc : S[cid]? = some (.arr [.map mid])) (hm : S[mid]? = some o) (a : Ac) (n : Nat) (hn : n < 1000000) (hd : (f a.up).isSome = true → climb f n a.up = 0 ∧ ∀ i, i < n → climb f i a.up ≠ 0) :
    ACalls E0 16 [.po cid 0, acD a] S tk (fun r S' tk' => ∃ o', (r = .int .i64 (addE f n a) ∧ Ch (addF f n a) o') ∧ S' = S.set mid o' ∧ tk' = tk) := by
  obtain ⟨l, clk, rfl, hC⟩ := h.at hc hm
  refine (add_at hC a n hn hd).mono ?_
  rintro r S' tk' ⟨rfl, rfl, rfl⟩
  unfold addS addF
  by_cases he : addE f n a = 0
  · rw [if_pos he, if_pos he]; exact ⟨_, ⟨rfl, _, _, rfl, hC.r.set _ _⟩, rfl, rfl⟩
  · rw [if_neg he, if_neg he]; exact ⟨_, ⟨rfl, _, _, rfl, hC.r⟩, (set_self hm).symm, rfl⟩
theorem shut_c (h : Ch f o) (hc : S[cid]? = some (.arr [.map mid])) (hm : S[mid]? = some o) (hL : keysOf f L) (hLl : L.length < 1000000) (c : Int) {U : List Int} (hU : UnderOf f L c U) :
    ACalls E0 14 [.po cid 0, .int .i64 c] S tk (fun r S' tk' => ∃ o', (r = .int .i64 (shutE f U c) ∧ Ch (shutF f U c) o') ∧ S' = S.set mid o' ∧ tk' = tk) := by
  obtain ⟨l, clk, rfl, hC⟩ := h.at hc hm
  refine (shut_at hC (by rw [hC.r.len hL]; exact hLl) hL hLl c hU).mono ?_
  rintro r S' tk' ⟨rfl, rfl, rfl⟩
  unfold shutS shutF
  by_cases he : shutE f U c = 0
  · rw [if_pos he, if_pos he]; exact ⟨_, ⟨rfl, _, _, rfl, hC.r.set _ _⟩, rfl, rfl⟩
  · rw [if_neg he, if_neg he]; exact ⟨_, ⟨rfl, _, _, rfl, hC.r⟩, (set_self hm).symm, rfl⟩
theorem under_c (h : Ch f o) (hc : S[cid]? = some (.arr [.map mid])) (hm : S[mid]? = some o) (hL : keysOf f L) (hLl : L.length < 1000000) (c : Int) {U : List Int} (hU : UnderOf f L c U) :
    ACalls E0 21 [.po cid 0, .int .i64 c] S tk (fun r S' tk' => r = .sl (i64s U) ∧ S' = S ∧ tk' = tk) := by
  obtain ⟨l, clk, rfl, hC⟩ := h.at hc hm
  exact under_at hC (by rw [hC.r.len hL]; exact hLl) hL hLl c hU
theorem leaf_c (h : Ch f o) (hc : S[cid]? = some (.arr [.map mid])) (hm : S[mid]? = some o) (hL : keysOf f L) (hLl : L.length < 1000000) (c : Int) {U : List Int} (hU : UnderOf f L c U) :
    ACalls E0 24 [.po cid 0, .int .i64 c] S tk (fun r S' tk' => r = .bool (decide (U.length = 1)) ∧ S' = S ∧ tk' = tk) := by
  obtain ⟨l, clk, rfl, hC⟩ := h.at hc hm
  exact leaf_at hC (by rw [hC.r.len hL]; exact hLl) hL hLl c hU
theorem all_c (h : Ch f o) (hc : S[cid]? = some (.arr [.map mid])) (hm : S[mid]? = some o) (hL : keysOf f L) (hLl : L.length < 1000000) :
    ACalls E0 20 [.po cid 0] S tk (fun r S' tk' => r = .sl (acsL (allL f L)) ∧ S' = S ∧ tk' = tk) := by
  obtain ⟨l, clk, rfl, hC⟩ := h.at hc hm
  exact all_at hC (by rw [hC.r.len hL]; exact hLl) hL hLl
theorem get_c (h : Ch f o) (hc : S[cid]? = some (.arr [.map mid])) (hm : S[mid]? = some o) (k : Int) : ACalls E0 22 [.po cid 0, .int .i64 k] S tk (fun r S' tk' => r = getF f k ∧ S' = S ∧ tk' = tk) := by
  obtain ⟨l, clk, rfl, hC⟩ := h.at hc hm
  exact get_at hC k
end
instance deepDec (f : Int → Option Ac) (L : List Int) : ∀ n c, Decidable (deep f L n c)
  | 0, _ => .isFalse id
  | n + 1, c => by
    have := deepDec f L n
    unfold deep
    exact List.decidableBAll ..

abbrev hA1 : Ac := ⟨1, 0, 1, ⟨#[97]⟩, false⟩
abbrev hA2 : Ac := ⟨2, 1, 1, ⟨#[98]⟩, false⟩
abbrev hA3 : Ac := ⟨3, 2, 3, ⟨#[99]⟩, false⟩
abbrev hA4 : Ac := ⟨4, 1, 1, ⟨#[100]⟩, false⟩
def h0 : Int → Option Ac := fun _ => none
def h1 := upd h0 1 hA1
def h2 := upd h1 2 hA2
def h3 := upd h2 2 { hA2 with sh := true }
def h4 := upd h3 1 { hA1 with sh := true }
theorem addF_0 {f : Int → Option Ac} {n : Nat} {a : Ac} (h : addE f n a = 0) : addF f n a = upd f a.code a := if_pos h
theorem addF_n {f : Int → Option Ac} {n : Nat} {a : Ac} (h : addE f n a ≠ 0) : addF f n a = f := if_neg h
theorem shutF_0 {f : Int → Option Ac} {U : List Int} {c : Int} (h : shutE f U c = 0) : shutF f U c = upd f c { (f c).getD noAc with sh := true } := if_pos h
theorem shutF_n {f : Int → Option Ac} {U : List Int} {c : Int} (h : shutE f U c ≠ 0) : shutF f U c = f := if_neg h
theorem hv1 : addE h0 0 hA1 = 0 := by decide
theorem hv2 : addE h1 1 hA2 = 0 := by decide
theorem hv3 : addE h2 2 hA3 = 9 := by decide
theorem hv4 : shutE h2 [1, 2] 1 = 9 := by decide
theorem hv5 : shutE h2 [2] 2 = 0 := by decide
theorem hv6 : shutE h3 [1, 2] 1 = 0 := by decide
theorem hv7 : addE h4 1 hA4 = 9 := by decide
theorem hk2 : keysOf h2 [1, 2] := ⟨by decide, fun k => by by_cases e1 : k = 1 <;> by_cases e2 : k = 2 <;> simp [h2, h1, h0, upd, e1, e2]⟩
theorem hk3 : keysOf h3 [1, 2] := ⟨by decide, fun k => by by_cases e1 : k = 1 <;> by_cases e2 : k = 2 <;> simp [h3, h2, h1, h0, upd, e1, e2]⟩
theorem hk4 : keysOf h4 [1, 2] := ⟨by decide, fun k => by by_cases e1 : k = 1 <;> by_cases e2 : k = 2 <;> simp [h4, h3, h2, h1, h0, upd, e1, e2]⟩
theorem under_of {f : Int → Option Ac} {L : List Int} {c : Int} {U : List Int} (n : Nat) (hf : (f c).isSome = true) (hd : deep f L n c) (hp : pre f L n c = U) (hr : U.Pairwise (· < ·)) (hl : U.length < 1000000) : UnderOf f L c U :=
  ⟨fun h => (by rw [h] at hf; cases hf), fun _ => ⟨n, hd, by rw [hp]; exact hl, by rw [hp]; exact hr.imp fun h => by omega, hr, fun k => by rw [hp]⟩⟩
theorem hu1 : UnderOf h2 [1, 2] 1 [1, 2] := under_of 3 (by decide) (by decide) (by decide) (by decide) (by decide)
theorem hu2 : UnderOf h2 [1, 2] 2 [2] := under_of 3 (by decide) (by decide) (by decide) (by decide) (by decide)
theorem hu3 : UnderOf h3 [1, 2] 1 [1, 2] := under_of 3 (by decide) (by decide) (by decide) (by decide) (by decide)
theorem hu4 : UnderOf h4 [1, 2] 1 [1, 2] := under_of 3 (by decide) (by decide) (by decide) (by decide) (by decide)
theorem hu5 : UnderOf h4 [1, 2] 2 [2] := under_of 3 (by decide) (by decide) (by decide) (by decide) (by decide)
set_option maxHeartbeats 2000000 in
theorem head19 : Pure 12 [] (.bool true) := by
  intro S tk
  have hx : h0 0 = none := rfl
  refine ACalls.fgo c12 rfl fun hS => ?_
  repeat' first | with_reducible refine fzD_ite (fun q => ?_) (fun q => ?_) | ((try conv => whnf); first
    | refine bs_d (fun q => ?_) (fun q => ?_)
    | refine bs_n ?_
    | refine bs_i (fun q => ?_) (fun q => ?_)
    | refine ckN (Jn := [.map ktI (entKv []) 0, .arr [.map S.length]]) rfl rfl (by have := new_at S tk; rw [List.append_nil, List.append_nil]; exact this) ?_
    | (refine ckJE (k := 0) (ds' := [.po (S.length + 1) 0, acD hA1]) rfl rfl (add_c (cid := S.length + 1) (mid := S.length + 0) (f := h0) ch_new (at_own rfl rfl) (at_own (k := 0) rfl rfl) hA1 0 (by decide) (fun h => by cases h)) (SubL.refl _) ?_; rintro r o1 ⟨rfl, ch1⟩; rw [addF_0 hv1] at ch1; change Ch h1 _ at ch1; rw [hv1])
    | (refine ckJE (k := 0) (ds' := [.po (S.length + 1) 0, acD hA2]) rfl rfl (add_c (cid := S.length + 1) (mid := S.length + 0) (f := h1) (by assumption) (at_own rfl rfl) (at_own (k := 0) rfl rfl) hA2 1 (by decide) (fun h => ⟨by decide, by decide⟩)) (SubL.refl _) ?_; rintro r o2 ⟨rfl, ch2⟩; rw [addF_0 hv2] at ch2; change Ch h2 _ at ch2; rw [hv2])
    | (refine ckJE (k := 0) (ds' := [.po (S.length + 1) 0, acD hA3]) rfl rfl (add_c (cid := S.length + 1) (mid := S.length + 0) (f := h2) (by assumption) (at_own rfl rfl) (at_own (k := 0) rfl rfl) hA3 2 (by decide) (fun h => ⟨by decide, by decide⟩)) (SubL.refl _) ?_; rintro r o3 ⟨rfl, ch3⟩; rw [addF_n (by rw [hv3]; decide)] at ch3; rw [hv3])
    | (refine ckJE (k := 0) (ds' := [.po (S.length + 1) 0, .int .i64 1]) rfl rfl (shut_c (cid := S.length + 1) (mid := S.length + 0) (f := h3) (by assumption) (at_own rfl rfl) (at_own (k := 0) rfl rfl) hk3 (by decide) 1 hu3) (SubL.refl _) ?_; rintro r o4 ⟨rfl, ch4⟩; rw [shutF_0 hv6] at ch4; change Ch h4 _ at ch4; rw [hv6])
    | (refine ckJE (k := 0) (ds' := [.po (S.length + 1) 0, .int .i64 1]) rfl rfl (shut_c (cid := S.length + 1) (mid := S.length + 0) (f := h2) (by assumption) (at_own rfl rfl) (at_own (k := 0) rfl rfl) hk2 (by decide) 1 hu1) (SubL.refl _) ?_; rintro r o5 ⟨rfl, ch5⟩; rw [shutF_n (by rw [hv4]; decide)] at ch5; rw [hv4])
    | (refine ckJE (k := 0) (ds' := [.po (S.length + 1) 0, .int .i64 2]) rfl rfl (shut_c (cid := S.length + 1) (mid := S.length + 0) (f := h2) (by assumption) (at_own rfl rfl) (at_own (k := 0) rfl rfl) hk2 (by decide) 2 hu2) (SubL.refl _) ?_; rintro r o6 ⟨rfl, ch6⟩; rw [shutF_0 hv5] at ch6; change Ch h3 _ at ch6; rw [hv5])
    | (refine ckJE (k := 0) (ds' := [.po (S.length + 1) 0, acD hA4]) rfl rfl (add_c (cid := S.length + 1) (mid := S.length + 0) (f := h4) (by assumption) (at_own rfl rfl) (at_own (k := 0) rfl rfl) hA4 1 (by decide) (fun h => ⟨by decide, by decide⟩)) (SubL.refl _) ?_; rintro r o7 ⟨rfl, ch7⟩; rw [addF_n (by rw [hv7]; decide)] at ch7; rw [hv7])
    | refine ckA rfl rfl (under_c (cid := S.length + 1) (mid := S.length + 0) (f := h2) (by assumption) (at_own rfl rfl) (at_own (k := 0) rfl rfl) hk2 (by decide) 1 hu1) ?_
    | refine ckA rfl rfl (leaf_c (cid := S.length + 1) (mid := S.length + 0) (f := h4) (by assumption) (at_own rfl rfl) (at_own (k := 0) rfl rfl) hk4 (by decide) 1 hu4) ?_
    | refine ckA rfl rfl (leaf_c (cid := S.length + 1) (mid := S.length + 0) (f := h4) (by assumption) (at_own rfl rfl) (at_own (k := 0) rfl rfl) hk4 (by decide) 2 hu5) ?_
    | refine cqA (leaf_c (cid := S.length + 1) (mid := S.length + 0) (f := h4) (by assumption) (at_own rfl rfl) (at_own (k := 0) rfl rfl) hk4 (by decide) 1 hu4) ?_
    | refine cqA (leaf_c (cid := S.length + 1) (mid := S.length + 0) (f := h4) (by assumption) (at_own rfl rfl) (at_own (k := 0) rfl rfl) hk4 (by decide) 2 hu5) ?_
    | refine ck (by first | rfl | simp) rfl (sameI [1, 2] [1, 2] (by decide) (by decide)) ?_
    | refine cq (sameI [1, 2] [1, 2] (by decide) (by decide)) ?_
    | refine ck (by first | rfl | simp) rfl (std1) ?_
    | refine cq (std1) ?_
    | refine ck (by first | rfl | simp) rfl (std2) ?_
    | refine cq (std2) ?_
    | refine ck (by first | rfl | simp) rfl (sameA stdA stdA (by decide) (by decide)) ?_
    | refine cq (sameA stdA stdA (by decide) (by decide)) ?_
    | refine eqk rfl ?_
    | refine ffin _ rfl rfl hS (Sub.refl _) rfl ⟨?_, rfl, rfl⟩)
  all_goals rfl
end Go.KL.Ythaoejicodhgaaa

/- charts: the standard accounts beside another -/
set_option linter.unusedVariables false
set_option linter.unusedSimpArgs false
set_option linter.unusedSectionVars false
set_option maxRecDepth 4000
namespace Go.KL.Ythaoejicodhgaaa
open Go Go.KL Go.RowKit Go.Proofs Go.Sort

theorem c5 : cFun E0.P 5 = some ⟨155, [(2, none)], .seq (.rg [⟨some 1, none, .box (.t 0) 27⟩, ⟨some 2, none, .mv (.k (.bool false))⟩]) (.seq (.seq (.rg [⟨some 13, none, .fa 3 (.t 1)⟩, ⟨some 14, none, .ld 1 false (.t 13)⟩, ⟨some 15, none, .len 0 (.t 14)⟩, ⟨some 16, none, .bin .gtr .leaf (.t 15) (.k (.int .i64 200))⟩]) (.cond (.t 16) (.seq (.rg [⟨some 17, none, .call 12 []⟩, ⟨some 2, none, .mv (.t 17)⟩]) .ret) .skip)) (.seq (.rg [⟨some 18, none, .call 11 []⟩, ⟨some 3, none, .mv (.t 18)⟩]) (.seq (.rg [⟨some 19, none, .mv (.t 3)⟩, ⟨some 20, none, .ld 5 true (.t 1)⟩, ⟨some 21, none, .call 16 [.t 19, .t 20]⟩]) (.seq (.rg [⟨some 22, none, .call 25 []⟩, ⟨some 4, none, .mv (.t 22)⟩]) (.seq (.seq (.rg [⟨some 5, none, .mv (.k (.int .i64 0))⟩]) (.block 0 (.loop (.seq (.seq (.rg [⟨some 23, none, .mv (.t 5)⟩, ⟨some 24, none, .mv (.t 4)⟩, ⟨some 25, none, .len 1 (.t 24)⟩, ⟨some 26, none, .bin .lss .leaf (.t 23) (.t 25)⟩]) (.cond (.t 26) .skip (.exit 0))) (.seq (.block 1 (.seq (.rg [⟨some 29, none, .mv (.t 3)⟩, ⟨some 30, none, .mv (.t 4)⟩, ⟨some 31, none, .mv (.t 5)⟩, ⟨some 32, none, .ia 5 (.t 30) (.t 31)⟩, ⟨some 33, none, .ld 5 true (.t 32)⟩, ⟨some 34, none, .call 16 [.t 29, .t 33]⟩, ⟨some 6, none, .mv (.t 34)⟩]) (.seq (.rd [(⟨some 35, none, .mv (.t 4)⟩, none), (⟨some 36, none, .mv (.t 5)⟩, none), (⟨some 37, none, .ia 5 (.t 35) (.t 36)⟩, none), (⟨some 38, none, .fa 0 (.t 37)⟩, none), (⟨some 39, none, .ld 1 false (.t 38)⟩, none), (⟨some 40, none, .fa 0 (.t 1)⟩, none), (⟨some 41, none, .ld 1 false (.t 40)⟩, none), (⟨some 42, none, .bin .neq .leaf (.t 39) (.t 41)⟩, none), (⟨some 43, none, .mv (.t 42)⟩, none), (⟨some 44, some (43, true), .mv (.t 6)⟩, none), (⟨some 45, some (43, true), .bin .neq .leaf (.t 44) (.k (.int .i64 0))⟩, none), (⟨some 46, none, .pick (.t 43) (.t 45) (.k (.bool false))⟩, none), (⟨some 47, none, .mv (.t 46)⟩, none), (⟨some 48, some (47, false), .mv (.t 6)⟩, none), (⟨some 49, some (47, false), .bin .neq .leaf (.t 48) (.k (.int .i64 0))⟩, none), (⟨some 50, some (47, false), .mv (.t 49)⟩, none), (⟨some 51, some (50, true), .mv (.t 6)⟩, none), (⟨some 52, some (50, true), .bin .neq .leaf (.t 51) (.k (.int .i64 8))⟩, none), (⟨some 53, some (47, false), .pick (.t 50) (.t 52) (.k (.bool false))⟩, none), (⟨some 54, none, .pick (.t 47) (.k (.bool true)) (.t 53)⟩, none), (⟨some 55, none, .mv (.t 54)⟩, none), (⟨some 56, some (55, false), .mv (.t 3)⟩, none), (⟨some 57, some (55, false), .mv (.t 4)⟩, none), (⟨some 58, some (55, false), .mv (.t 5)⟩, none), (⟨some 59, some (55, false), .ia 5 (.t 57) (.t 58)⟩, none), (⟨some 60, some (55, false), .ld 5 true (.t 59)⟩, none), (⟨some 61, some (55, false), .call 16 [.t 56, .t 60]⟩, some []), (⟨some 62, some (55, false), .bin .neq .leaf (.t 61) (.k (.int .i64 8))⟩, none), (⟨some 63, none, .pick (.t 55) (.k (.bool true)) (.t 62)⟩, none), (⟨some 64, none, .mv (.t 63)⟩, none), (⟨some 65, some (64, false), .mv (.t 4)⟩, none), (⟨some 66, some (64, false), .mv (.t 5)⟩, none), (⟨some 67, some (64, false), .ia 5 (.t 65) (.t 66)⟩, none), (⟨some 68, some (64, false), .fa 2 (.t 67)⟩, none), (⟨some 69, some (64, false), .ld 1 false (.t 68)⟩, none), (⟨some 70, some (64, false), .call 18 [.t 69]⟩, some []), (⟨some 71, some (64, false), .bin .eql .leaf (.t 70) (.k (.int .i64 0))⟩, none), (⟨some 72, none, .pick (.t 64) (.k (.bool true)) (.t 71)⟩, none)]) (.cond (.t 72) (.seq (.rg [⟨some 2, none, .mv (.k (.bool false))⟩]) .ret) .skip)))) (.rg [⟨some 27, none, .mv (.t 5)⟩, ⟨some 28, none, .bin .add .leaf (.t 27) (.k (.int .i64 1))⟩, ⟨some 5, none, .mv (.t 28)⟩])))))) (.seq (.rg [⟨some 7, none, .mv (.k .nilp)⟩]) (.seq (.rg [⟨some 8, none, .alloc [.nilmap] 51⟩]) (.seq (.rg [⟨some 74, none, .mv (.t 7)⟩, ⟨some 75, none, .fa 0 (.t 1)⟩, ⟨some 76, none, .ld 1 false (.t 75)⟩, ⟨some 77, none, .call 22 [.t 74, .t 76]⟩, ⟨some 73, none, .mv (.t 77)⟩, ⟨some 78, none, .ext 0 (.t 73)⟩, ⟨some 79, none, .ext 1 (.t 73)⟩, ⟨some 9, none, .alloc [.int .i64 0, .int .i64 0, .int .u8 0, .str ⟨#[]⟩, .bool false] 27⟩, ⟨none, none, .st 5 (.t 9) (.t 78)⟩, ⟨some 10, none, .mv (.t 79)⟩]) (.seq (.rg [⟨some 81, none, .fa 0 (.t 1)⟩, ⟨some 82, none, .ld 1 false (.t 81)⟩, ⟨some 83, none, .call 22 [.t 8, .t 82]⟩, ⟨some 80, none, .mv (.t 83)⟩, ⟨some 84, none, .ext 0 (.t 80)⟩, ⟨some 85, none, .ext 1 (.t 80)⟩, ⟨some 11, none, .alloc [.int .i64 0, .int .i64 0, .int .u8 0, .str ⟨#[]⟩, .bool false] 27⟩, ⟨none, none, .st 5 (.t 11) (.t 84)⟩, ⟨some 12, none, .mv (.t 85)⟩]) (.seq (.rg [⟨some 86, none, .mv (.t 4)⟩, ⟨some 87, none, .len 1 (.t 86)⟩, ⟨some 88, none, .bin .eql .leaf (.t 87) (.k (.int .i64 6))⟩, ⟨some 89, none, .mv (.t 88)⟩, ⟨some 90, some (89, true), .mv (.t 7)⟩, ⟨some 91, some (89, true), .ld 5 true (.t 1)⟩, ⟨some 92, some (89, true), .call 16 [.t 90, .t 91]⟩, ⟨some 93, some (89, true), .bin .eql .leaf (.t 92) (.k (.int .i64 1))⟩, ⟨some 94, none, .pick (.t 89) (.t 93) (.k (.bool false))⟩, ⟨some 95, none, .mv (.t 94)⟩, ⟨some 96, some (95, true), .ld 5 true (.t 1)⟩, ⟨some 97, some (95, true), .call 16 [.t 8, .t 96]⟩, ⟨some 98, some (95, true), .bin .eql .leaf (.t 97) (.k (.int .i64 1))⟩, ⟨some 99, none, .pick (.t 95) (.t 98) (.k (.bool false))⟩, ⟨some 100, none, .mv (.t 99)⟩, ⟨some 101, some (100, true), .mv (.t 7)⟩, ⟨some 102, some (100, true), .call 14 [.t 101, .k (.int .i64 1)]⟩, ⟨some 103, some (100, true), .bin .eql .leaf (.t 102) (.k (.int .i64 1))⟩, ⟨some 104, none, .pick (.t 100) (.t 103) (.k (.bool false))⟩, ⟨some 105, none, .mv (.t 104)⟩, ⟨some 106, some (105, true), .call 14 [.t 8, .k (.int .i64 1)]⟩, ⟨some 107, some (105, true), .bin .eql .leaf (.t 106) (.k (.int .i64 1))⟩, ⟨some 108, none, .pick (.t 105) (.t 107) (.k (.bool false))⟩, ⟨some 109, none, .mv (.t 108)⟩, ⟨some 110, some (109, true), .mv (.t 10)⟩, ⟨some 111, some (109, true), .bin .eql .leaf (.t 110) (.k (.int .i64 1))⟩, ⟨some 112, none, .pick (.t 109) (.t 111) (.k (.bool false))⟩, ⟨some 113, none, .mv (.t 112)⟩, ⟨some 114, some (113, true), .mv (.t 12)⟩, ⟨some 115, some (113, true), .bin .eql .leaf (.t 114) (.k (.int .i64 1))⟩, ⟨some 116, none, .pick (.t 113) (.t 115) (.k (.bool false))⟩, ⟨some 117, none, .mv (.t 116)⟩, ⟨some 118, some (117, true), .ld 5 true (.t 9)⟩, ⟨some 119, some (117, true), .ld 5 true (.t 11)⟩, ⟨some 120, some (117, true), .bin .eql (.agg [(0, .i), (1, .i), (2, .i), (3, .s), (4, .b)]) (.t 118) (.t 119)⟩, ⟨some 121, none, .pick (.t 117) (.t 120) (.k (.bool false))⟩, ⟨some 122, none, .mv (.t 121)⟩, ⟨some 123, some (122, true), .ld 5 true (.t 9)⟩, ⟨some 124, some (122, true), .build [.int .i64 0, .int .i64 0, .int .u8 0, .str ⟨#[]⟩, .bool false] []⟩, ⟨some 125, some (122, true), .bin .eql (.agg [(0, .i), (1, .i), (2, .i), (3, .s), (4, .b)]) (.t 123) (.t 124)⟩, ⟨some 126, none, .pick (.t 122) (.t 125) (.k (.bool false))⟩, ⟨some 127, none, .mv (.t 126)⟩, ⟨some 128, some (127, true), .mv (.t 7)⟩, ⟨some 129, some (127, true), .call 20 [.t 128]⟩, ⟨some 130, some (127, true), .len 1 (.t 129)⟩, ⟨some 131, some (127, true), .call 20 [.t 8]⟩, ⟨some 132, some (127, true), .len 1 (.t 131)⟩, ⟨some 133, some (127, true), .bin .add .leaf (.t 130) (.t 132)⟩, ⟨some 134, some (127, true), .mv (.t 7)⟩, ⟨some 135, some (127, true), .call 21 [.t 134, .k (.int .i64 1)]⟩, ⟨some 136, some (127, true), .len 1 (.t 135)⟩, ⟨some 137, some (127, true), .bin .add .leaf (.t 133) (.t 136)⟩, ⟨some 138, some (127, true), .call 21 [.t 8, .k (.int .i64 1)]⟩, ⟨some 139, some (127, true), .len 1 (.t 138)⟩, ⟨some 140, some (127, true), .bin .add .leaf (.t 137) (.t 139)⟩, ⟨some 141, some (127, true), .bin .eql .leaf (.t 140) (.k (.int .i64 0))⟩, ⟨some 142, none, .pick (.t 127) (.t 141) (.k (.bool false))⟩, ⟨some 143, none, .mv (.t 142)⟩, ⟨some 144, some (143, true), .mv (.t 7)⟩, ⟨some 145, some (143, true), .call 24 [.t 144, .k (.int .i64 1)]⟩, ⟨some 146, some (143, true), .un .not (.t 145)⟩, ⟨some 147, none, .pick (.t 143) (.t 146) (.k (.bool false))⟩, ⟨some 148, none, .mv (.t 147)⟩, ⟨some 149, some (148, true), .call 24 [.t 8, .k (.int .i64 1)]⟩, ⟨some 150, some (148, true), .un .not (.t 149)⟩, ⟨some 151, none, .pick (.t 148) (.t 150) (.k (.bool false))⟩, ⟨some 152, none, .mv (.t 151)⟩, ⟨some 153, some (152, true), .call 12 []⟩, ⟨some 154, none, .pick (.t 152) (.t 153) (.k (.bool false))⟩, ⟨some 2, none, .mv (.t 154)⟩]) .ret))))))))))⟩ := by kernel_rfl

structure CX where
  i : Nat
  f : Int → Option Ac
  o : O
structure CX.P (a : Ac) (s : CX) : Prop where
  i : s.i ≤ 6
  ch : Ch s.f s.o
  pos : ∀ k, (s.f k).isSome = true → 1 ≤ k
  of : ∀ k, (s.f k).isSome = true → k = a.code ∨ ∃ j, j < s.i ∧ k = (stdA[j]!).code
theorem std_ok : ∀ i, i < 6 → mayA stdA[i]! ∧ (stdA[i]!).up = 0 ∧ 1 ≤ (stdA[i]!).code ∧ ∀ j, j < i → (stdA[i]!).code ≠ (stdA[j]!).code := by decide
theorem none_of {f : Int → Option Ac} {k : Int} (h : ∀ k, (f k).isSome = true → 1 ≤ k) (hk : k = 0) : (f k).isSome = false := by
  cases hf : (f k).isSome with
  | false => rfl
  | true => have := h k hf; omega
theorem isSome_upd {f : Int → Option Ac} {k j : Int} {a : Ac} : (upd f k a j).isSome = true ↔ j = k ∨ (f j).isSome = true := by
  unfold upd; by_cases e : j = k <;> simp [e]
theorem first_add (a : Ac) : addE h0 0 a ≠ 0 ∨ mayA a := by
  by_cases h : mayA a
  · exact .inr h
  · exact .inl (by rw [addE_2 h]; decide)
theorem first_P {a : Ac} {o : O} (h : Ch (addF h0 0 a) o) : CX.P a ⟨0, addF h0 0 a, o⟩ := by
  refine ⟨Nat.zero_le _, h, ?_, ?_⟩
  all_goals
    intro k hk
    simp only at hk
    rw [addF] at hk
    split at hk
    · next he =>
      rcases isSome_upd.1 hk with e | e
      · have hm : mayA a := by rcases first_add a with h | h; exact absurd he h; exact h
        first
          | exact .inl e
          | (rw [e]; exact hm.1.1)
      · cases e
    · cases hk
set_option maxHeartbeats 2000000 in
theorem chartStandard (a : Ac) : Pure 5 [acD a] (.bool true) := by
  intro S tk
  refine ACalls.fgo c5 rfl fun hS => ?_
  repeat' first | with_reducible refine fzD_ite (fun q => ?_) (fun q => ?_) | ((try conv => whnf); first
    | refine bs_d (fun q => ?_) (fun q => ?_)
    | refine bs_n ?_
    | refine bs_i (fun q => ?_) (fun q => ?_)
    | refine ck (by first | rfl | simp) rfl (head19) ?_
    | refine cq (head19) ?_
    | refine ck (by first | rfl | simp) rfl (std1) ?_
    | refine cq (std1) ?_
    | refine ckN (d := .po (S.length + 2) 0) (Jn := [.map ktI (entKv []) 0, .arr [.map (S.length + 1)]]) rfl rfl (by have := new_at (S ++ [.arr a.cs]) tk; rw [List.append_nil]; rw [List.length_append] at this; exact this) ?_
    | (refine ckJE (k := 1) (ds' := [.po (S.length + 2) 0, acD a]) rfl rfl (add_c (cid := S.length + 2) (mid := S.length + 1) (f := h0) ch_new (at_own rfl rfl) (at_own rfl rfl) a 0 (by decide) (fun h => by cases h)) (SubL.refl _) ?_; rintro r o1 ⟨rfl, ch1⟩)
    | refine eqk rfl ?_
    | refine ffin _ rfl rfl hS (Sub.refl _) rfl ⟨?_, rfl, rfl⟩)
  · rfl
  have hP0 := first_P ch1
  refine floop (α := CX) rfl rfl hS (CX.P a) (fun s => 6 - s.i) (fun s => [(5, .d (.int .i64 s.i)), (4, .d (.sl (acsL stdA))), (3, .d (.po (S.length + 2) 0)), (1, .lp 0 0)]) (fun s => [.arr a.cs, s.o, .arr [.map (S.length + 1)]]) (fun _ => []) ⟨0, addF h0 0 a, o1⟩ hP0 (fstep_sub ⟨Sub.refl _, Sub.refl _, Sub.refl _, Sub.refl _, trivial⟩) ?_
  intro s hs
  have h1 := hs.i
  have hch := hs.ch
  have std_at : s.i < 6 → addE s.f 0 stdA[s.i]! = (if (s.f (stdA[s.i]!).code).isSome = true then 8 else 0) ∧ addE (addF s.f 0 stdA[s.i]!) 0 stdA[s.i]! = 8 := fun hi => by
    obtain ⟨hm, hu, hp, hj⟩ := std_ok s.i hi
    have h0 := none_of hs.pos hu
    by_cases hk : (s.f (stdA[s.i]!).code).isSome = true
    · have e8 := addE_8 (n := 0) hm hk
      rw [if_pos hk]
      exact ⟨e8, by rw [addF_n (by rw [e8]; decide)]; exact e8⟩
    · rw [if_neg hk]
      have e0 := addE_0a (n := 0) hm (by simpa using hk) h0 hu
      exact ⟨e0, by rw [addF_0 e0]; exact addE_8 hm (isSome_upd.2 (.inl rfl))⟩
  have std_no : s.i < 6 → (s.f (stdA[s.i]!).code).isSome = true → (stdA[s.i]!).code = a.code := fun hi hk => by
    obtain ⟨hm, hu, hp, hj⟩ := std_ok s.i hi
    rcases hs.of _ hk with e | ⟨j, hj', e⟩
    · exact e
    · exact absurd e (hj j hj')
  have nx : s.i < 6 → ∀ o, Ch (addF (addF s.f 0 stdA[s.i]!) 0 stdA[s.i]!) o → CX.P a ⟨s.i + 1, addF s.f 0 stdA[s.i]!, o⟩ := fun hi o ho => by
    obtain ⟨hm, hu, hp, hj⟩ := std_ok s.i hi
    rw [addF_n (by rw [(std_at hi).2]; decide)] at ho
    refine ⟨by simp only; omega, ho, ?_, ?_⟩
    all_goals
      intro k hk
      simp only at hk
      rw [addF] at hk
    · split at hk
      · rcases isSome_upd.1 hk with e | e
        · rw [e]; exact hp
        · exact hs.pos k e
      · exact hs.pos k hk
    · have old : (s.f k).isSome = true → k = a.code ∨ ∃ j, j < s.i + 1 ∧ k = (stdA[j]!).code := fun e => by
        rcases hs.of k e with e | ⟨j, hj', e⟩
        · exact .inl e
        · exact .inr ⟨j, by omega, e⟩
      split at hk
      · rcases isSome_upd.1 hk with e | e
        · exact .inr ⟨s.i, by simp only; omega, e⟩
        · exact old e
      · exact old hk
  have sd : s.i < 6 → sideF (stdA[s.i]!).cl ≠ 0 := fun hi => (std_ok s.i hi).1.2.1
  have hd1 : s.i < 6 → ((s.f (stdA[s.i]!).up).isSome = true → climb s.f 0 (stdA[s.i]!).up = 0 ∧ ∀ i, i < 0 → climb s.f i (stdA[s.i]!).up ≠ 0) := fun hi h => by
    rw [none_of hs.pos (std_ok s.i hi).2.1] at h; cases h
  have hd2 : s.i < 6 → ((addF s.f 0 stdA[s.i]! (stdA[s.i]!).up).isSome = true → climb (addF s.f 0 stdA[s.i]!) 0 (stdA[s.i]!).up = 0 ∧ ∀ i, i < 0 → climb (addF s.f 0 stdA[s.i]!) i (stdA[s.i]!).up ≠ 0) := fun hi h => by
    obtain ⟨hm, hu, hp, hj⟩ := std_ok s.i hi
    rw [hu, addF] at h
    split at h
    · rcases isSome_upd.1 h with e | e
      · omega
      · rw [none_of hs.pos rfl] at e; cases e
    · rw [none_of hs.pos rfl] at h; cases h
  by_cases hi : s.i < 6
  · have hsd := sd hi
    have e2 := (std_at hi).2
    by_cases hk : (s.f (stdA[s.i]!).code).isSome = true
    · have e1 := (std_at hi).1
      rw [if_pos hk] at e1
      have hcode := std_no hi hk
      repeat' first | with_reducible refine fzD_ite (fun q => ?_) (fun q => ?_) | ((try conv => whnf); first
        | refine bs_d (fun q => ?_) (fun q => ?_)
        | refine bs_n ?_
        | refine bs_i (fun q => ?_) (fun q => ?_)
        | refine pK_i (iaD_ac (l := stdA) (i := s.i) rfl hi) ?_
        | refine ck (by first | rfl | simp) rfl (side _) ?_
        | refine cq (side _) ?_
        | (refine ckJE (k := 1) (ds' := [.po (S.length + 2) 0, acD stdA[s.i]!]) rfl rfl (add_c (cid := S.length + 2) (mid := S.length + 1) (f := addF s.f 0 stdA[s.i]!) (by assumption) (at_own rfl rfl) (at_own rfl rfl) stdA[s.i]! 0 (by decide) (hd2 hi)) (SubL.refl _) ?_; rintro r o3 ⟨rfl, ch3⟩; rw [e2])
        | (refine ckJE (k := 1) (ds' := [.po (S.length + 2) 0, acD stdA[s.i]!]) rfl rfl (add_c (cid := S.length + 2) (mid := S.length + 1) (f := s.f) hch (at_own rfl rfl) (at_own rfl rfl) stdA[s.i]! 0 (by decide) (hd1 hi)) (SubL.refl _) ?_; rintro r o2 ⟨rfl, ch2⟩; rw [e1])
        | refine eqk rfl ?_
        | refine ffin _ rfl rfl hS (Sub.refl _) rfl ⟨?_, rfl, rfl⟩)
      · exact absurd (by assumption) hsd
      · conv => whnf
        refine fnext (α := CX) ⟨s.i + 1, addF s.f 0 stdA[s.i]!, o3⟩ (nx hi o3 ch3) (by simp only; omega) (fstep_J rfl ⟨Sub.int (by simp only; rw [wi64_id]; omega; unfold I64; omega), Sub.refl _, Sub.refl _, Sub.refl _, trivial⟩)
      · exact absurd hcode (by assumption)
      · rename_i q
        exact absurd (show ((s.i : Nat) : Int) < 6 by omega) q
    · have e1 := (std_at hi).1
      rw [if_neg hk] at e1
      repeat' first | with_reducible refine fzD_ite (fun q => ?_) (fun q => ?_) | ((try conv => whnf); first
        | refine bs_d (fun q => ?_) (fun q => ?_)
        | refine bs_n ?_
        | refine bs_i (fun q => ?_) (fun q => ?_)
        | refine pK_i (iaD_ac (l := stdA) (i := s.i) rfl hi) ?_
        | refine ck (by first | rfl | simp) rfl (side _) ?_
        | refine cq (side _) ?_
        | (refine ckJE (k := 1) (ds' := [.po (S.length + 2) 0, acD stdA[s.i]!]) rfl rfl (add_c (cid := S.length + 2) (mid := S.length + 1) (f := addF s.f 0 stdA[s.i]!) (by assumption) (at_own rfl rfl) (at_own rfl rfl) stdA[s.i]! 0 (by decide) (hd2 hi)) (SubL.refl _) ?_; rintro r o3 ⟨rfl, ch3⟩; rw [e2])
        | (refine ckJE (k := 1) (ds' := [.po (S.length + 2) 0, acD stdA[s.i]!]) rfl rfl (add_c (cid := S.length + 2) (mid := S.length + 1) (f := s.f) hch (at_own rfl rfl) (at_own rfl rfl) stdA[s.i]! 0 (by decide) (hd1 hi)) (SubL.refl _) ?_; rintro r o2 ⟨rfl, ch2⟩; rw [e1])
        | refine eqk rfl ?_
        | refine ffin _ rfl rfl hS (Sub.refl _) rfl ⟨?_, rfl, rfl⟩)
      · exact absurd (by assumption) hsd
      · conv => whnf
        refine fnext (α := CX) ⟨s.i + 1, addF s.f 0 stdA[s.i]!, o3⟩ (nx hi o3 ch3) (by simp only; omega) (fstep_J rfl ⟨Sub.int (by simp only; rw [wi64_id]; omega; unfold I64; omega), Sub.refl _, Sub.refl _, Sub.refl _, trivial⟩)
      · exact absurd (by assumption) hsd
      · conv => whnf
        refine fnext (α := CX) ⟨s.i + 1, addF s.f 0 stdA[s.i]!, o3⟩ (nx hi o3 ch3) (by simp only; omega) (fstep_J rfl ⟨Sub.int (by simp only; rw [wi64_id]; omega; unfold I64; omega), Sub.refl _, Sub.refl _, Sub.refl _, trivial⟩)
      · rename_i q
        exact absurd (show ((s.i : Nat) : Int) < 6 by omega) q
  · skip
    repeat' first | with_reducible refine fzD_ite (fun q => ?_) (fun q => ?_) | ((try conv => whnf); first
      | refine bs_d (fun q => ?_) (fun q => ?_)
      | refine bs_n ?_
      | refine bs_i (fun q => ?_) (fun q => ?_)
      | refine ck (by first | rfl | simp) rfl (get_nil _) ?_
      | refine cq (get_nil _) ?_
      | refine ck (by first | rfl | simp) rfl (add_nil a) ?_
      | refine cq (add_nil a) ?_
      | refine ck (by first | rfl | simp) rfl (shut_nil 1) ?_
      | refine cq (shut_nil 1) ?_
      | refine ck (by first | rfl | simp) rfl (all_nil) ?_
      | refine cq (all_nil) ?_
      | refine ck (by first | rfl | simp) rfl (under_nil 1) ?_
      | refine cq (under_nil 1) ?_
      | refine ck (by first | rfl | simp) rfl (leaf_nil 1) ?_
      | refine cq (leaf_nil 1) ?_
      | refine ck (by first | rfl | simp) rfl (head19) ?_
      | refine cq (head19) ?_
      | refine ckA rfl rfl (get_zero (cid := S.length + 3) (at_own rfl rfl) a.code) ?_
      | refine ckA rfl rfl (add_zero (cid := S.length + 3) (at_own rfl rfl) a) ?_
      | refine ckA rfl rfl (shut_zero (cid := S.length + 3) (at_own rfl rfl) 1) ?_
      | refine ckA rfl rfl (all_zero (cid := S.length + 3) (at_own rfl rfl)) ?_
      | refine ckA rfl rfl (under_zero (cid := S.length + 3) (at_own rfl rfl) 1) ?_
      | refine ckA rfl rfl (leaf_zero (cid := S.length + 3) (at_own rfl rfl) 1) ?_
      | refine eqk rfl ?_
      | refine ffin _ rfl rfl hS (Sub.refl _) rfl ⟨?_, rfl, rfl⟩)
    · rename_i q
      exact absurd (show ((s.i : Nat) : Int) < 6 from q) (by omega)
    · rfl
end Go.KL.Ythaoejicodhgaaa
