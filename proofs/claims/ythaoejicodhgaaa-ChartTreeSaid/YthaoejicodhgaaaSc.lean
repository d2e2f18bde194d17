/- bits.Len, the powers of two, the draws -/
import Derived.Test.YthaoejicodhgaaaSb
import Derived.Test.YthaoejicodhgaaaKL34
import Derived.Lib.BitFns
import Derived.Laws.Bits64
import Derived.Laws.Bits64b
import Derived.Sort.LotD1
import Derived.Test.YthaoejicodhgaaaKL36
import Derived.Test.YthaoejicodhgaaaKL37
set_option linter.unusedVariables false
set_option linter.unusedSimpArgs false
set_option linter.unusedSectionVars false
set_option maxRecDepth 4000
namespace Go.KL.Ythaoejicodhgaaa
open Go Go.KL Go.RowKit Go.Proofs Go.Sort

theorem c134 : cFun E0.P 134 = some ⟨25, [(2, none)], .seq (.rg [⟨some 2, none, .mv (.k (.int .i64 0))⟩]) (.seq (.seq (.rg [⟨some 3, none, .mv (.t 0)⟩, ⟨some 4, none, .bin .geq .leaf (.t 3) (.k (.int .u64 4294967296))⟩]) (.cond (.t 4) (.seq (.rg [⟨some 5, none, .mv (.t 0)⟩, ⟨some 6, none, .bin .shr .leaf (.t 5) (.k (.int .u64 32))⟩, ⟨some 0, none, .mv (.t 6)⟩]) (.rg [⟨some 2, none, .mv (.k (.int .i64 32))⟩])) .skip)) (.seq (.seq (.rg [⟨some 7, none, .mv (.t 0)⟩, ⟨some 8, none, .bin .geq .leaf (.t 7) (.k (.int .u64 65536))⟩]) (.cond (.t 8) (.seq (.rg [⟨some 9, none, .mv (.t 0)⟩, ⟨some 10, none, .bin .shr .leaf (.t 9) (.k (.int .u64 16))⟩, ⟨some 0, none, .mv (.t 10)⟩]) (.rg [⟨some 11, none, .mv (.t 2)⟩, ⟨some 12, none, .bin .add .leaf (.t 11) (.k (.int .i64 16))⟩, ⟨some 2, none, .mv (.t 12)⟩])) .skip)) (.seq (.seq (.rg [⟨some 13, none, .mv (.t 0)⟩, ⟨some 14, none, .bin .geq .leaf (.t 13) (.k (.int .u64 256))⟩]) (.cond (.t 14) (.seq (.rg [⟨some 15, none, .mv (.t 0)⟩, ⟨some 16, none, .bin .shr .leaf (.t 15) (.k (.int .u64 8))⟩, ⟨some 0, none, .mv (.t 16)⟩]) (.rg [⟨some 17, none, .mv (.t 2)⟩, ⟨some 18, none, .bin .add .leaf (.t 17) (.k (.int .i64 8))⟩, ⟨some 2, none, .mv (.t 18)⟩])) .skip)) (.seq (.rg [⟨some 19, none, .mv (.t 2)⟩, ⟨some 20, none, .mv (.t 0)⟩, ⟨some 21, none, .conv .u8 (.t 20)⟩, ⟨some 22, none, .ixS (.k (.str ⟨#[0, 1, 2, 2, 3, 3, 3, 3, 4, 4, 4, 4, 4, 4, 4, 4, 5, 5, 5, 5, 5, 5, 5, 5, 5, 5, 5, 5, 5, 5, 5, 5, 6, 6, 6, 6, 6, 6, 6, 6, 6, 6, 6, 6, 6, 6, 6, 6, 6, 6, 6, 6, 6, 6, 6, 6, 6, 6, 6, 6, 6, 6, 6, 6, 7, 7, 7, 7, 7, 7, 7, 7, 7, 7, 7, 7, 7, 7, 7, 7, 7, 7, 7, 7, 7, 7, 7, 7, 7, 7, 7, 7, 7, 7, 7, 7, 7, 7, 7, 7, 7, 7, 7, 7, 7, 7, 7, 7, 7, 7, 7, 7, 7, 7, 7, 7, 7, 7, 7, 7, 7, 7, 7, 7, 7, 7, 7, 7, 8, 8, 8, 8, 8, 8, 8, 8, 8, 8, 8, 8, 8, 8, 8, 8, 8, 8, 8, 8, 8, 8, 8, 8, 8, 8, 8, 8, 8, 8, 8, 8, 8, 8, 8, 8, 8, 8, 8, 8, 8, 8, 8, 8, 8, 8, 8, 8, 8, 8, 8, 8, 8, 8, 8, 8, 8, 8, 8, 8, 8, 8, 8, 8, 8, 8, 8, 8, 8, 8, 8, 8, 8, 8, 8, 8, 8, 8, 8, 8, 8, 8, 8, 8, 8, 8, 8, 8, 8, 8, 8, 8, 8, 8, 8, 8, 8, 8, 8, 8, 8, 8, 8, 8, 8, 8, 8, 8, 8, 8, 8, 8, 8, 8, 8, 8, 8, 8, 8, 8, 8, 8, 8, 8, 8, 8, 8, 8]⟩)) (.t 21)⟩, ⟨some 23, none, .conv .i64 (.t 22)⟩, ⟨some 24, none, .bin .add .leaf (.t 19) (.t 23)⟩, ⟨some 2, none, .mv (.t 24)⟩]) .ret))))⟩ := by kernel_rfl
theorem c95 : cFun E0.P 95 = some ⟨8, [(2, none)], .seq (.rg [⟨some 2, none, .mv (.k (.int .i64 0))⟩]) (.seq (.cond (.k (.bool false)) (.seq (.rg [⟨some 3, none, .mv (.t 0)⟩, ⟨some 4, none, .conv .u32 (.t 3)⟩, ⟨some 5, none, .call 133 [.t 4]⟩, ⟨some 2, none, .mv (.t 5)⟩]) .ret) .skip) (.seq (.rg [⟨some 6, none, .mv (.t 0)⟩, ⟨some 7, none, .call 134 [.t 6]⟩, ⟨some 2, none, .mv (.t 7)⟩]) .ret))⟩ := by kernel_rfl
theorem c160 : cFun E0.P 160 = some ⟨7, [(2, none)], .seq (.rg [⟨some 2, none, .mv (.k (.int .u64 0))⟩]) (.seq (.rg [⟨some 3, none, .mv (.t 0)⟩, ⟨some 4, none, .conv .u64 (.t 3)⟩, ⟨some 5, none, .call 95 [.t 4]⟩, ⟨some 6, none, .bin .shl .leaf (.k (.int .u64 1)) (.t 5)⟩, ⟨some 2, none, .mv (.t 6)⟩]) .ret)⟩ := by kernel_rfl
theorem c161 : cFun E0.P 161 = some ⟨33, [(2, none)], .seq (.rg [⟨some 2, none, .mv (.k (.int .u64 0))⟩]) (.seq (.rd [(⟨some 3, none, .mv (.t 0)⟩, none), (⟨some 4, none, .nilck (.t 3)⟩, none), (⟨some 5, none, .ld 1 false (.t 4)⟩, none), (⟨some 6, none, .mv (.t 0)⟩, none), (⟨some 7, none, .nilck (.t 6)⟩, none), (⟨some 8, none, .ld 1 false (.t 7)⟩, none), (⟨some 9, none, .bin .shl .leaf (.t 8) (.k (.int .u64 13))⟩, none), (⟨some 10, none, .bin .xor .leaf (.t 5) (.t 9)⟩, none), (⟨some 11, none, .nilck (.t 3)⟩, none), (⟨none, none, .st 1 (.t 11) (.t 10)⟩, some [])]) (.seq (.rd [(⟨some 12, none, .mv (.t 0)⟩, none), (⟨some 13, none, .nilck (.t 12)⟩, none), (⟨some 14, none, .ld 1 false (.t 13)⟩, none), (⟨some 15, none, .mv (.t 0)⟩, none), (⟨some 16, none, .nilck (.t 15)⟩, none), (⟨some 17, none, .ld 1 false (.t 16)⟩, none), (⟨some 18, none, .bin .shr .leaf (.t 17) (.k (.int .u64 7))⟩, none), (⟨some 19, none, .bin .xor .leaf (.t 14) (.t 18)⟩, none), (⟨some 20, none, .nilck (.t 12)⟩, none), (⟨none, none, .st 1 (.t 20) (.t 19)⟩, some [])]) (.seq (.rd [(⟨some 21, none, .mv (.t 0)⟩, none), (⟨some 22, none, .nilck (.t 21)⟩, none), (⟨some 23, none, .ld 1 false (.t 22)⟩, none), (⟨some 24, none, .mv (.t 0)⟩, none), (⟨some 25, none, .nilck (.t 24)⟩, none), (⟨some 26, none, .ld 1 false (.t 25)⟩, none), (⟨some 27, none, .bin .shl .leaf (.t 26) (.k (.int .u64 17))⟩, none), (⟨some 28, none, .bin .xor .leaf (.t 23) (.t 27)⟩, none), (⟨some 29, none, .nilck (.t 21)⟩, none), (⟨none, none, .st 1 (.t 29) (.t 28)⟩, some [])]) (.seq (.rg [⟨some 30, none, .mv (.t 0)⟩, ⟨some 31, none, .nilck (.t 30)⟩, ⟨some 32, none, .ld 1 false (.t 31)⟩, ⟨some 2, none, .mv (.t 32)⟩]) .ret))))⟩ := by kernel_rfl
theorem c126 : cFun E0.P 126 = some ⟨65, [], .seq (.rg [⟨some 11, none, .mv (.t 2)⟩, ⟨some 12, none, .mv (.t 1)⟩, ⟨some 13, none, .bin .sub .leaf (.t 11) (.t 12)⟩, ⟨some 6, none, .mv (.t 13)⟩]) (.seq (.rg [⟨some 14, none, .mv (.t 6)⟩, ⟨some 15, none, .bin .geq .leaf (.t 14) (.k (.int .i64 8))⟩]) (.cond (.t 15) (.seq (.rg [⟨some 16, none, .mv (.t 6)⟩, ⟨some 17, none, .conv .u64 (.t 16)⟩, ⟨some 7, none, .alloc [.int .u64 0] 238⟩, ⟨none, none, .st 1 (.t 7) (.t 17)⟩]) (.seq (.rg [⟨some 18, none, .mv (.t 6)⟩, ⟨some 19, none, .call 160 [.t 18]⟩, ⟨some 8, none, .mv (.t 19)⟩]) (.seq (.rg [⟨some 20, none, .mv (.t 1)⟩, ⟨some 21, none, .mv (.t 6)⟩, ⟨some 22, none, .bin .quo .leaf (.t 21) (.k (.int .i64 4))⟩, ⟨some 23, none, .bin .mul .leaf (.t 22) (.k (.int .i64 2))⟩, ⟨some 24, none, .bin .add .leaf (.t 20) (.t 23)⟩, ⟨some 25, none, .bin .sub .leaf (.t 24) (.k (.int .i64 1))⟩, ⟨some 9, none, .mv (.t 25)⟩]) (.block 0 (.loop (.seq (.seq (.rg [⟨some 26, none, .mv (.t 9)⟩, ⟨some 27, none, .mv (.t 1)⟩, ⟨some 28, none, .mv (.t 6)⟩, ⟨some 29, none, .bin .quo .leaf (.t 28) (.k (.int .i64 4))⟩, ⟨some 30, none, .bin .mul .leaf (.t 29) (.k (.int .i64 2))⟩, ⟨some 31, none, .bin .add .leaf (.t 27) (.t 30)⟩, ⟨some 32, none, .bin .add .leaf (.t 31) (.k (.int .i64 1))⟩, ⟨some 33, none, .bin .leq .leaf (.t 26) (.t 32)⟩]) (.cond (.t 33) .skip (.exit 0))) (.seq (.block 1 (.seq (.rg [⟨some 36, none, .call 161 [.t 7]⟩, ⟨some 37, none, .mv (.t 8)⟩, ⟨some 38, none, .bin .sub .leaf (.t 37) (.k (.int .u64 1))⟩, ⟨some 39, none, .bin .and .leaf (.t 36) (.t 38)⟩, ⟨some 40, none, .conv .i64 (.t 39)⟩, ⟨some 10, none, .mv (.t 40)⟩]) (.seq (.seq (.rg [⟨some 41, none, .mv (.t 10)⟩, ⟨some 42, none, .mv (.t 6)⟩, ⟨some 43, none, .bin .geq .leaf (.t 41) (.t 42)⟩]) (.cond (.t 43) (.rg [⟨some 44, none, .mv (.t 10)⟩, ⟨some 45, none, .mv (.t 6)⟩, ⟨some 46, none, .bin .sub .leaf (.t 44) (.t 45)⟩, ⟨some 10, none, .mv (.t 46)⟩]) .skip)) (.rd [(⟨some 47, none, .mv (.t 0)⟩, none), (⟨some 48, none, .mv (.t 9)⟩, none), (⟨some 49, none, .mv (.t 0)⟩, none), (⟨some 50, none, .mv (.t 1)⟩, none), (⟨some 51, none, .mv (.t 10)⟩, none), (⟨some 52, none, .bin .add .leaf (.t 50) (.t 51)⟩, none), (⟨some 53, none, .mv (.t 0)⟩, none), (⟨some 54, none, .mv (.t 1)⟩, none), (⟨some 55, none, .mv (.t 10)⟩, none), (⟨some 56, none, .bin .add .leaf (.t 54) (.t 55)⟩, none), (⟨some 57, none, .ia 1 (.t 53) (.t 56)⟩, none), (⟨some 58, none, .ld 1 false (.t 57)⟩, none), (⟨some 59, none, .mv (.t 0)⟩, none), (⟨some 60, none, .mv (.t 9)⟩, none), (⟨some 61, none, .ia 1 (.t 59) (.t 60)⟩, none), (⟨some 62, none, .ld 1 false (.t 61)⟩, none), (⟨some 63, none, .ia 1 (.t 47) (.t 48)⟩, none), (⟨none, none, .st 1 (.t 63) (.t 58)⟩, some []), (⟨some 64, none, .ia 1 (.t 49) (.t 52)⟩, none), (⟨none, none, .st 1 (.t 64) (.t 62)⟩, some [])])))) (.rg [⟨some 34, none, .mv (.t 9)⟩, ⟨some 35, none, .bin .add .leaf (.t 34) (.k (.int .i64 1))⟩, ⟨some 9, none, .mv (.t 35)⟩])))))))) .skip))⟩ := by kernel_rfl
theorem c62 : cFun E0.P 62 = some ⟨11, [], .seq (.rg [⟨some 3, none, .mv (.t 0)⟩, ⟨some 4, none, .len 1 (.t 3)⟩, ⟨some 2, none, .mv (.t 4)⟩]) (.rg [⟨some 5, none, .mv (.t 0)⟩, ⟨some 6, none, .mv (.t 2)⟩, ⟨some 7, none, .mv (.t 2)⟩, ⟨some 8, none, .conv .u64 (.t 7)⟩, ⟨some 9, none, .call 95 [.t 8]⟩, ⟨some 10, none, .call 94 [.t 5, .k (.int .i64 0), .t 6, .t 9]⟩])⟩ := by kernel_rfl

theorem ixL {y : Int} (h0 : 0 ≤ y) (h : y ≤ 255) : ixSD (.str Lib.len8tab) (.int .u8 (IntKind.u8.wrap y)) = some (.int .u8 (Lib.bitLen y.toNat : Nat)) := by
  have hs : Lib.len8tab.size = 256 := by decide
  have hw : IntKind.u8.wrap y = y := by rw [IntKind.wrap_u8]; omega
  rw [← Lib.len8_of y h0 h, hw]
  simp only [ixSD, if_pos h0, getElem?_pos Lib.len8tab y.toNat (by omega), Lib.len8, Option.getD]
theorem bitLen_eq (x : Nat) (h : x < 2 ^ 64) : Lib.bitLen x = bitsLen x := by
  induction x using Nat.strongRecOn with
  | _ x ih =>
    by_cases h0 : x = 0
    · subst h0; rfl
    · rw [Lib.bitLen_half x h0 h, ih (x / 2) (by omega) (by omega)]
      unfold bitsLen
      rw [if_neg h0, Nat.log2_def x]
      by_cases h2 : 2 ≤ x
      · rw [if_pos h2, if_neg (by omega)]; omega
      · obtain rfl : x = 1 := by omega
        simp
theorem sh32 (x : Int) : x.fdiv (2 ^ min (Int.toNat 32) IntKind.u64.bits) = x / 4294967296 := Int.fdiv_eq_ediv_of_nonneg _ (by decide)
theorem sh16 (x : Int) : x.fdiv (2 ^ min (Int.toNat 16) IntKind.u64.bits) = x / 65536 := Int.fdiv_eq_ediv_of_nonneg _ (by decide)
theorem sh8 (x : Int) : x.fdiv (2 ^ min (Int.toNat 8) IntKind.u64.bits) = x / 256 := Int.fdiv_eq_ediv_of_nonneg _ (by decide)

set_option maxHeartbeats 2000000 in
theorem len64 (x : Nat) (hx : x < 4611686018427387904) : Pure 134 [.int .u64 x] (.int .i64 (Lib.bitLen x : Nat)) := by
  intro S tk
  refine ACalls.fgo c134 rfl fun hS => ?_
  repeat' first | with_reducible refine fzD_ite (fun q => ?_) (fun q => ?_) | ((try conv => whnf); first
    | refine bs_d (fun q => ?_) (fun q => ?_) <;> (try simp (disch := ((try unfold I64); omega)) only [wi64_id, td] at q)
    | refine bs_n ?_
    | refine bs_i (fun q => ?_) (fun q => ?_)
    | refine pK_i (ixL (by (try simp only [sh32, sh16, sh8] at *); omega) (by (try simp only [sh32, sh16, sh8] at *); omega)) ?_
    | refine eqk rfl ?_
    | refine ffin _ rfl rfl hS (Sub.refl _) rfl ⟨?_, rfl, rfl⟩)
  all_goals simp only [tupD, sh32, sh16, sh8] at *
  all_goals first
    | (have e : ((x:Int) / 4294967296 / 65536 / 256).toNat = x / 72057594037927936 := by omega
       have l := Lib.bitLen_le8' ((x:Int) / 4294967296 / 65536 / 256) (by omega) (by omega)
       have s := Lib.bitLen_shift56 x (by omega) (by omega)
       rw [e] at l ⊢
       refine congrArg (D.int .i64) ?_
       simp (disch := (unfold I64; omega)) only [wi64_id]
       omega)
    | (have e : ((x:Int) / 4294967296 / 65536).toNat = x / 281474976710656 := by omega
       have l := Lib.bitLen_le8' ((x:Int) / 4294967296 / 65536) (by omega) (by omega)
       have s := Lib.bitLen_shift48 x (by omega) (by omega)
       rw [e] at l ⊢
       refine congrArg (D.int .i64) ?_
       simp (disch := (unfold I64; omega)) only [wi64_id]
       omega)
    | (have e : ((x:Int) / 4294967296 / 256).toNat = x / 1099511627776 := by omega
       have l := Lib.bitLen_le8' ((x:Int) / 4294967296 / 256) (by omega) (by omega)
       have s := Lib.bitLen_shift40 x (by omega) (by omega)
       rw [e] at l ⊢
       refine congrArg (D.int .i64) ?_
       simp (disch := (unfold I64; omega)) only [wi64_id]
       omega)
    | (have e : ((x:Int) / 4294967296).toNat = x / 4294967296 := by omega
       have l := Lib.bitLen_le8' ((x:Int) / 4294967296) (by omega) (by omega)
       have s := Lib.bitLen_shift32 x (by omega) (by omega)
       rw [e] at l ⊢
       refine congrArg (D.int .i64) ?_
       simp (disch := (unfold I64; omega)) only [wi64_id]
       omega)
    | (have e : ((x:Int) / 65536 / 256).toNat = x / 16777216 := by omega
       have l := Lib.bitLen_le8' ((x:Int) / 65536 / 256) (by omega) (by omega)
       have s := Lib.bitLen_shift24 x (by omega) (by omega)
       rw [e] at l ⊢
       refine congrArg (D.int .i64) ?_
       simp (disch := (unfold I64; omega)) only [wi64_id]
       omega)
    | (have e : ((x:Int) / 65536).toNat = x / 65536 := by omega
       have l := Lib.bitLen_le8' ((x:Int) / 65536) (by omega) (by omega)
       have s := Lib.bitLen_shift16 x (by omega) (by omega)
       rw [e] at l ⊢
       refine congrArg (D.int .i64) ?_
       simp (disch := (unfold I64; omega)) only [wi64_id]
       omega)
    | (have e : ((x:Int) / 256).toNat = x / 256 := by omega
       have l := Lib.bitLen_le8' ((x:Int) / 256) (by omega) (by omega)
       have s := Lib.bitLen_shift8 x (by omega) (by omega)
       rw [e] at l ⊢
       refine congrArg (D.int .i64) ?_
       simp (disch := (unfold I64; omega)) only [wi64_id]
       omega)
    | (have l := Lib.bitLen_le8' (x:Int) (by omega) (by omega)
       refine congrArg (D.int .i64) ?_
       rw [Int.toNat_natCast] at l ⊢
       simp (disch := (unfold I64; omega)) only [wi64_id]
       omega)
theorem len (x : Nat) (hx : x < 4611686018427387904) : Pure 95 [.int .u64 x] (.int .i64 (bitsLen x : Nat)) := by
  intro S tk
  rw [← bitLen_eq x (by omega)]
  refine ACalls.fgo c95 rfl fun hS => ?_
  repeat' first | with_reducible refine fzD_ite (fun q => ?_) (fun q => ?_) | ((try conv => whnf); first
    | refine bs_d (fun q => ?_) (fun q => ?_) <;> (try simp (disch := ((try unfold I64); omega)) only [wi64_id, td] at q)
    | refine bs_n ?_
    | refine bs_i (fun q => ?_) (fun q => ?_)
    | refine ck (by first | rfl | simp) rfl (len64 _ (by omega)) ?_
    | refine cq (len64 _ (by omega)) ?_
    | refine eqk rfl ?_
    | refine ffin _ rfl rfl hS (Sub.refl _) rfl ⟨?_, rfl, rfl⟩)
  all_goals rfl
theorem shlD {k k' : IntKind} {q : EqK} {a b : Int} (h : 0 ≤ b) : binD .shl q (.int k a) (.int k' b) = some (.int k (k.wrap (a * 2 ^ (min b.toNat k.bits)))) := by
  simp [binD, Int.not_lt.2 h]
theorem nextPow (x : Nat) (hx : x < 4611686018427387904) : Pure 160 [.int .i64 x] (.int .u64 ((2 ^ bitsLen x : Nat) : Int)) := by
  intro S tk
  have hk : bitsLen x ≤ 62 := (bitsLen_le_iff x 62).2 (by omega)
  refine ACalls.fgo c160 rfl fun hS => ?_
  repeat' first | with_reducible refine fzD_ite (fun q => ?_) (fun q => ?_) | ((try conv => whnf); first
    | refine bs_d (fun q => ?_) (fun q => ?_) <;> (try simp (disch := ((try unfold I64); omega)) only [wi64_id, td] at q)
    | refine bs_n ?_
    | refine bs_i (fun q => ?_) (fun q => ?_)
    | refine ckS (by first | rfl | simp) rfl (len x hx) (.cons (Sub.int (by rw [wu64_id]; unfold U64; omega)) .nil) ?_
    | refine pK_i (shlD (by omega)) ?_
    | refine eqk rfl ?_
    | refine ffin _ rfl rfl hS (Sub.refl _) rfl ⟨?_, rfl, rfl⟩)
  refine congrArg (D.int .u64) ?_
  rw [Int.toNat_natCast, show min (bitsLen x) IntKind.u64.bits = bitsLen x from by rw [show IntKind.u64.bits = 64 from rfl]; omega, Int.one_mul, wu64_id]
  · exact (Int.natCast_pow 2 _).symm
  · have : (2 : Nat) ^ bitsLen x ≤ 2 ^ 62 := Nat.pow_le_pow_right (by omega) hk
    have e : ((2 : Int) ^ bitsLen x) = ((2 ^ bitsLen x : Nat) : Int) := (Int.natCast_pow 2 _).symm
    obtain ⟨c, hc⟩ : ∃ c : Nat, c = 2 ^ bitsLen x := ⟨_, rfl⟩
    rw [e, ← hc]; rw [← hc] at this; unfold U64; omega
theorem at_set {S : List O} {pid : Nat} {o o' : O} (h : S[pid]? = some o) : (S.set pid o')[pid]? = some o' := by
  rw [List.getElem?_set_self (List.getElem?_eq_some_iff.1 h).1]
theorem next (x : Int) (S : List O) (tk : Tks) (pid : Nat) (hp : S[pid]? = some (.arr [.int .u64 x])) :
    ACalls E0 161 [.po pid 0] S tk (fun r S' tk' => ∃ o', (∃ y : Int, 0 ≤ y ∧ y < 18446744073709551616 ∧ r = .int .u64 y ∧ o' = .arr [.int .u64 y]) ∧ S' = S.set pid o' ∧ tk' = tk) := by
  have hlt : pid < S.length := (List.getElem?_eq_some_iff.1 hp).1
  have he : S = S.set pid (.arr [.int .u64 x]) := by
    obtain ⟨h1, h2⟩ := List.getElem?_eq_some_iff.1 hp
    rw [← h2, List.set_getElem_self]
  have ha : ∀ y : Int, (S.set pid (.arr [.int .u64 y]))[pid]? = some (.arr [.int .u64 y]) := fun y => at_set hp
  refine ACalls.fgoC c161 rfl [1, 2, 3] rfl fun hS => ?_
  have hgS : ∀ y : Int, (S.set pid (.arr [.int .u64 y])).length = S.length ∧ OSc S.length (List.length tk) (S.set pid (.arr [.int .u64 y])) := fun y => ⟨by simp, hS.set (oSc_osc rfl)⟩
  repeat' first | with_reducible refine fzD_ite (fun q => ?_) (fun q => ?_) | ((try conv => whnf); first
    | refine bs_d (fun q => ?_) (fun q => ?_)
    | refine bs_n ?_
    | refine bs_i (fun q => ?_) (fun q => ?_)
    | refine eqk rfl ?_
    | refine ffin _ rfl rfl hS (Sub.refl _) rfl ⟨?_, rfl, rfl⟩)
  refine fcut (α := Int) rfl (fun _ => True) (fun y => [(0, .d (.po pid 0))]) (fun y => S.set pid (.arr [.int .u64 y])) (fun _ => []) (fun _ => []) (fun y _ => hgS y) ?_ fun y _ => ?_
  · skip
    repeat' first | with_reducible refine fzD_ite (fun q => ?_) (fun q => ?_) | ((try conv => whnf); first
      | refine bs_d (fun q => ?_) (fun q => ?_)
      | refine bs_n ?_
      | refine bs_i (fun q => ?_) (fun q => ?_)
      | refine pK_i (ldO_old hp rfl) ?_
      | refine gk_stpo_old (by simp) rfl rfl hp rfl ⟨rfl, rfl, rfl, Nat.le_refl _⟩ ?_
      | refine eqk rfl ?_
      | refine ffin _ rfl rfl hS (Sub.refl _) rfl ⟨?_, rfl, rfl⟩)
    exact fcnext (α := Int) _ trivial rfl (fstep_sub ⟨Sub.refl _, trivial⟩)
  refine fcut (α := Int) rfl (fun _ => True) (fun y => [(0, .d (.po pid 0))]) (fun y => S.set pid (.arr [.int .u64 y])) (fun _ => []) (fun _ => []) (fun y _ => hgS y) ?_ fun z _ => ?_
  · skip
    repeat' first | with_reducible refine fzD_ite (fun q => ?_) (fun q => ?_) | ((try conv => whnf); first
      | refine bs_d (fun q => ?_) (fun q => ?_)
      | refine bs_n ?_
      | refine bs_i (fun q => ?_) (fun q => ?_)
      | refine pK_i (ldO_old (ha y) rfl) ?_
      | refine gk_stpo_old (by simp) rfl rfl (ha y) rfl ⟨rfl, rfl, rfl, Nat.le_refl _⟩ ?_
      | refine eqk rfl ?_
      | refine ffin _ rfl rfl hS (Sub.refl _) rfl ⟨?_, rfl, rfl⟩)
    exact fcnext (α := Int) _ trivial (by rw [List.set_set]; rfl) (fstep_sub ⟨Sub.refl _, trivial⟩)
  refine fcut (α := Int) rfl (fun y => 0 ≤ y ∧ y < 18446744073709551616) (fun y => [(0, .d (.po pid 0))]) (fun y => S.set pid (.arr [.int .u64 y])) (fun _ => []) (fun _ => []) (fun y _ => hgS y) ?_ fun u hu => ?_
  · skip
    repeat' first | with_reducible refine fzD_ite (fun q => ?_) (fun q => ?_) | ((try conv => whnf); first
      | refine bs_d (fun q => ?_) (fun q => ?_)
      | refine bs_n ?_
      | refine bs_i (fun q => ?_) (fun q => ?_)
      | refine pK_i (ldO_old (ha z) rfl) ?_
      | refine gk_stpo_old (by simp) rfl rfl (ha z) rfl ⟨rfl, rfl, rfl, Nat.le_refl _⟩ ?_
      | refine eqk rfl ?_
      | refine ffin _ rfl rfl hS (Sub.refl _) rfl ⟨?_, rfl, rfl⟩)
    exact fcnext (α := Int) _ (wu64_range _) (by rw [List.set_set]; rfl) (fstep_sub ⟨Sub.refl _, trivial⟩)
  repeat' first | with_reducible refine fzD_ite (fun q => ?_) (fun q => ?_) | ((try conv => whnf); first
    | refine bs_d (fun q => ?_) (fun q => ?_)
    | refine bs_n ?_
    | refine bs_i (fun q => ?_) (fun q => ?_)
    | refine pK_i (ldO_old (ha u) rfl) ?_
    | refine ffin _ (by simp) rfl (hgS u).2 (Sub.refl _) rfl ⟨_, ⟨u, hu.1, hu.2, rfl, rfl⟩, rfl, rfl⟩
    | refine eqk rfl ?_
    | refine ffin _ rfl rfl hS (Sub.refl _) rfl ⟨?_, rfl, rfl⟩)
theorem andz {y : Int} {M : Nat} (h0 : 0 ≤ y) (h1 : y < 18446744073709551616) (hM : 0 < M) (hM2 : M < 9223372036854775808) :
    ∃ z : Nat, IntKind.i64.wrap (IntKind.u64.wrap (BitVec.ofInt IntKind.u64.bits y &&& BitVec.ofInt IntKind.u64.bits (IntKind.u64.wrap ((M : Int) - 1))).toNat) = z ∧ z < M := by
  have e : IntKind.u64.wrap ((M : Int) - 1) = ((M - 1 : Nat) : Int) := by rw [wu64]; omega
  have h := bits_and_u64_nat y.toNat (M - 1) (by omega) (by omega)
  rw [Int.toNat_of_nonneg h0] at h
  have h2 : y.toNat &&& (M - 1) ≤ M - 1 := Nat.and_le_right
  refine ⟨y.toNat &&& (M - 1), ?_, by omega⟩
  rw [e]
  refine (congrArg IntKind.i64.wrap h).trans ?_
  rw [wi64_id]; unfold I64; omega
structure SX where
  d : Array Int
  i : Nat
  x : Int
set_option maxHeartbeats 4000000 in
theorem breakP (id n : Nat) (d : Array Int) (a b : Nat) (hd : d.size = n) (hab : a < b) (hb : b ≤ n) (hn : n < 4611686018427387904) :
    Makes 126 id n [.int .i64 a, .int .i64 b] d (fun r d' => r = .tup [] ∧ PermIn a b d d') := by
  intro S0 tk hid
  refine ACalls.fgo c126 rfl fun hS => ?_
  have hp2 := two_pow_bitsLen_le (n := b - a) (by omega)
  have hp0 : 0 < 2 ^ bitsLen (b - a) := Nat.two_pow_pos _
  have hpow := nextPow (b - a) (by omega)
  obtain ⟨M, hM⟩ : ∃ M : Nat, M = 2 ^ bitsLen (b - a) := ⟨_, rfl⟩
  rw [← hM] at hp2 hp0 hpow
  have hl : (S0.set id (VI d)).length = S0.length := List.length_set ..
  repeat' first | with_reducible refine fzD_ite (fun q => ?_) (fun q => ?_) | ((try conv => whnf); first
    | refine bs_d (fun q => ?_) (fun q => ?_) <;> (try simp (disch := ((try unfold I64); omega)) only [wi64_id, td] at q)
    | refine bs_n ?_
    | refine bs_i (fun q => ?_) (fun q => ?_)
    | refine ckS (by first | rfl | simp) rfl hpow (.cons (Sub.int (by first | rfl | omega | (refine Int.sub_eq_zero.mp ?_; simp (disch := ((try unfold I64); omega)) only [wi64_id, td]; omega))) .nil) ?_
    | refine ffin _ (by simp) rfl (osc_VO' kE _ hS) (Sub.refl _) rfl ⟨_, ⟨rfl, permIn_refl _ _ _⟩, rfl, rfl⟩
    | refine eqk rfl ?_
    | refine ffin _ rfl rfl hS (Sub.refl _) rfl ⟨?_, rfl, rfl⟩)
  refine floopS (α := SX) rfl (fun s => s.d.size = n ∧ PermIn a b d s.d ∧ a + (b - a) / 4 * 2 ≤ s.i + 1 ∧ s.i ≤ a + (b - a) / 4 * 2 + 2) (fun s => b + 2 - s.i) (fun s => [(9, .d (.int .i64 s.i)), (1, .d (.int .i64 a)), (6, .d (.int .i64 ((b - a : Nat) : Int))), (0, .d (vec id n)), (7, .lp 0 0), (8, .d (.int .u64 M))])
    (fun s => S0.set id (VI s.d)) (fun s => [.arr [.int .u64 s.x]]) (fun _ => []) (fun s _ => ⟨by simp, osc_VO' kE _ hS⟩) ⟨d, a + (b - a) / 4 * 2 - 1, _⟩ ⟨hd, permIn_refl _ _ _, by simp only; omega, by simp only; omega⟩ rfl (fstep_sub ⟨Sub.int (by first | rfl | omega | (refine Int.sub_eq_zero.mp ?_; simp (disch := ((try unfold I64); omega)) only [wi64_id, td]; omega)), Sub.refl _, Sub.int (by first | rfl | omega | (refine Int.sub_eq_zero.mp ?_; simp (disch := ((try unfold I64); omega)) only [wi64_id, td]; omega)), Sub.refl _, Sub.refl _, Sub.refl _, trivial⟩) ?_
  rintro s ⟨h1, h2, h3, h4⟩
  repeat' first | with_reducible refine fzD_ite (fun q => ?_) (fun q => ?_) | ((try conv => whnf); first
    | (refine bs_d (fun q => ?_) (fun q => ?_) <;> (rw [hz] at q; try simp (disch := ((try unfold I64); omega)) only [wi64_id, td] at q))
    | refine bs_d (fun q => ?_) (fun q => ?_) <;> (try simp (disch := ((try unfold I64); omega)) only [wi64_id, td] at q)
    | refine bs_n ?_
    | refine bs_i (fun q => ?_) (fun q => ?_)
    | (refine ckJE (k := 0) (by simp) rfl (next s.x _ _ _ (at_own (by simp) rfl)) (SubL.refl _) (fun r o' hG => ?_); obtain ⟨y, y0, y1, rfl, rfl⟩ := hG; obtain ⟨z, hz, hzM⟩ := andz y0 y1 hp0 (by omega))
    | refine pK_i (iaD_vecN (k := s.i) (by first | rfl | omega | (refine Int.sub_eq_zero.mp ?_; simp (disch := ((try unfold I64); omega)) only [wi64_id, td]; omega)) (by omega)) ?_
    | refine pK_i (iaD_vecN (k := a + z) (by rw [hz]; simp (disch := ((try unfold I64); omega)) only [wi64_id, td]; omega) (by omega)) ?_
    | refine pK_i (iaD_vecN (k := a + (z - (b - a))) (by rw [hz]; simp (disch := ((try unfold I64); omega)) only [wi64_id, td]; omega) (by omega)) ?_
    | refine pK_i (ldV_VO kE hid h1 (by omega)) ?_
    | refine gk_stVO kE hid (List.length_set ..).symm rfl rfl (by simpa using h1) (by omega) rfl ?_
    | refine ffin _ (by simp) rfl (osc_VO' kE _ hS) (Sub.refl _) rfl ⟨_, ⟨rfl, h2⟩, rfl, rfl⟩
    | refine eqk rfl ?_
    | refine ffin _ rfl rfl hS (Sub.refl _) rfl ⟨?_, rfl, rfl⟩)
  · exact fnextS (α := SX) ⟨swp s.d s.i (a + (z - (b - a))), s.i + 1, y⟩ ⟨by rw [size_swp']; exact h1, permIn_trans _ _ _ _ _ h2 (swp_permIn s.d a b s.i _ (by omega) (by omega) (by omega) (by omega) (by omega)), by simp only; omega, by simp only; omega⟩ (by simp only; omega) rfl (fstep_sub ⟨Sub.int (by first | rfl | omega | (refine Int.sub_eq_zero.mp ?_; simp (disch := ((try unfold I64); omega)) only [wi64_id, td]; omega)), Sub.refl _, Sub.refl _, Sub.refl _, Sub.refl _, Sub.refl _, trivial⟩)
  · exact fnextS (α := SX) ⟨swp s.d s.i (a + z), s.i + 1, y⟩ ⟨by rw [size_swp']; exact h1, permIn_trans _ _ _ _ _ h2 (swp_permIn s.d a b s.i _ (by omega) (by omega) (by omega) (by omega) (by omega)), by simp only; omega, by simp only; omega⟩ (by simp only; omega) rfl (fstep_sub ⟨Sub.int (by first | rfl | omega | (refine Int.sub_eq_zero.mp ?_; simp (disch := ((try unfold I64); omega)) only [wi64_id, td]; omega)), Sub.refl _, Sub.refl _, Sub.refl _, Sub.refl _, Sub.refl _, trivial⟩)

/-- slices.Sort -/
theorem sortV (id n : Nat) (d : Array Int) (hd : d.size = n) (hn : n < 4611686018427387904) : Makes 62 id n [] d (fun r d' => r = .tup [] ∧ Sorts 0 n d d') := by
  intro S0 tk hid
  have hk : bitsLen n ≤ 62 := (bitsLen_le_iff n 62).2 (by omega)
  refine ACalls.fgo c62 rfl fun hS => ?_
  repeat' first | with_reducible refine fzD_ite (fun q => ?_) (fun q => ?_) | ((try conv => whnf); first
    | refine bs_d (fun q => ?_) (fun q => ?_) <;> (try simp (disch := ((try unfold I64); omega)) only [wi64_id, td] at q)
    | refine bs_n ?_
    | refine bs_i (fun q => ?_) (fun q => ?_)
    | refine ckS (by first | rfl | simp) rfl (len n hn) (.cons (Sub.int (by rw [wu64_id]; unfold U64; omega)) .nil) ?_
    | (refine ckVE hid (List.length_set ..).symm rfl (pdqsort_of id n hn (fun d a b h1 h2 h3 => breakP id n d a b h1 h2 h3 hn) n d 0 n (bitsLen n) hd (Nat.zero_le _) (Nat.le_refl _) (Nat.le_refl _) (by omega) (Or.inl rfl)) (.cons (Sub.refl _) (.cons (Sub.int (by first | rfl | omega | (refine Int.sub_eq_zero.mp ?_; simp (disch := ((try unfold I64); omega)) only [wi64_id, td]; omega))) (.cons (Sub.int (by first | rfl | omega | (refine Int.sub_eq_zero.mp ?_; simp (disch := ((try unfold I64); omega)) only [wi64_id, td]; omega))) (SubL.refl _)))) (fun r dq hG => ?_); obtain ⟨rfl, hq⟩ := hG; skip)
    | refine ffin _ (by simp) rfl (osc_VO' kE _ hS) (Sub.refl _) rfl ⟨_, ⟨rfl, hq⟩, rfl, rfl⟩
    | refine eqk rfl ?_
    | refine ffin _ rfl rfl hS (Sub.refl _) rfl ⟨?_, rfl, rfl⟩)
end Go.KL.Ythaoejicodhgaaa

/- maps.Keys, slices.AppendSeq, Collect, Sorted -/
set_option linter.unusedVariables false
set_option linter.unusedSimpArgs false
set_option linter.unusedSectionVars false
set_option maxRecDepth 4000
namespace Go.KL.Ythaoejicodhgaaa
open Go Go.KL Go.RowKit Go.Proofs Go.Sort

theorem c92 : cFun E0.P 92 = some ⟨9, [(2, none)], .seq (.rg [⟨some 2, none, .mv (.k .nilsl)⟩]) (.seq (.rg [⟨some 4, none, .mv (.t 0)⟩, ⟨some 5, none, .call 122 [.t 4]⟩, ⟨some 3, none, .mv (.t 5)⟩]) (.seq (.rg [⟨some 6, none, .mv (.t 3)⟩, ⟨some 7, none, .call 62 [.t 6]⟩]) (.seq (.rg [⟨some 8, none, .mv (.t 3)⟩, ⟨some 2, none, .mv (.t 8)⟩]) .ret)))⟩ := by kernel_rfl
theorem c122 : cFun E0.P 122 = some ⟨5, [(2, none)], .seq (.rg [⟨some 2, none, .mv (.k .nilsl)⟩]) (.seq (.rg [⟨some 3, none, .mv (.t 0)⟩, ⟨some 4, none, .call 158 [.k .nilsl, .t 3]⟩, ⟨some 2, none, .mv (.t 4)⟩]) .ret)⟩ := by kernel_rfl
theorem c158 : cFun E0.P 158 = some ⟨13, [(4, none)], .seq (.rg [⟨some 2, none, .box (.t 0) 41⟩, ⟨some 4, none, .mv (.k .nilsl)⟩]) (.seq (.seq (.rg [⟨some 6, none, .mv (.t 1)⟩]) (.block 0 (.rfn (.t 6) [7] (.rg [⟨some 5, none, .mv (.t 7)⟩]) (.block 1 (.rg [⟨some 8, none, .ld 1 false (.t 2)⟩, ⟨some 9, none, .mv (.t 5)⟩, ⟨some 10, none, .buildS 1 1 [.int .i64 0] [(0, .t 9)] 3⟩, ⟨some 11, none, .app 41 3 1 8 [.int .i64 0] (.t 8) (.t 10)⟩, ⟨none, none, .st 1 (.t 2) (.t 11)⟩])) (Array.mk [7], Code.region 2 (Array.mk [Oper.mk (some 5) (Op.assign (Operand.tmp 7)) 3 "iter.go:51" (Array.mk []) none]) false, Code.block 1 (Code.region 3 (Array.mk [Oper.mk (some 8) (Op.load 41 (Operand.tmp 2)) 41 "iter.go:52" (Array.mk []) none, Oper.mk (some 9) (Op.move (Operand.tmp 5)) 3 "iter.go:52" (Array.mk []) none, Oper.mk (some 10) (Op.buildSlice 41 1 (Array.mk [(0, Operand.tmp 9)])) 41 "iter.go:52" (Array.mk [Edge.mk 1 Ground.data]) none, Oper.mk (some 11) (Op.call (Call.mk (Callee.builtin Builtin.append) (Array.mk [Operand.tmp 8, Operand.tmp 10]) (Array.mk [41, 41]))) 41 "iter.go:52" (Array.mk [Edge.mk 0 Ground.data, Edge.mk 2 Ground.data]) none, Oper.mk none (Op.store 41 (Operand.tmp 2) (Operand.tmp 11)) 0 "iter.go:52" (Array.mk [Edge.mk 3 Ground.data, Edge.mk 3 Ground.chain, Edge.mk 0 Ground.phase, Edge.mk 1 Ground.phase, Edge.mk 2 Ground.phase, Edge.mk 3 Ground.phase]) none]) false))))) (.seq (.rg [⟨some 12, none, .ld 1 false (.t 2)⟩, ⟨some 4, none, .mv (.t 12)⟩]) .ret))⟩ := by kernel_rfl

/-- a function that yields at most N things, together as good says -/
structure Enum (g : FuncId) (cell : Nat) (S : List O) (tk : Tks) (N : Nat) (good : Array Int → Prop) : Prop where
  ok : callOK E0.P g = true
  h : ∀ (yid : Nat) (gS : Array Int → List O) (n : Nat), (∀ d, (gS d).length = n) → (∀ d, OSc n tk.length (gS d)) → (∀ (d : Array Int) (i : Nat) (o : O), S[i]? = some o → (gS d)[i]? = some o) →
    (∀ (d : Array Int) (k : Int) (it : O), d.size < N → AYields E0 yid [kD k] (gS d ++ [it]) tk (fun r S' tk' => r = .bool true ∧ S' = gS (d.push k) ++ [it] ∧ tk' = tk)) →
    ACalls E0 g [.yld yid, .po cell 0] (gS #[]) tk (fun r S' tk' => r = .tup [] ∧ tk' = tk ∧ ∃ d, good d ∧ S' = gS d)

theorem rows_push (d : Array Int) (k : Int) : rowsV kD d.toList ++ [[kD k]] = rowsV kD (d.push k).toList := by
  simp [rowsV, kD, D.cs]

theorem appendSeq {g : FuncId} {cell : Nat} {S : List O} {tk : Tks} {N : Nat} {good : Array Int → Prop} (hN : N < 1099511627776) (hE : Enum g cell S tk N good) :
    ACalls E0 158 [.nilsl, .fn g [.po cell 0]] S tk (fun r S' tk' => ∃ d J k, good d ∧ S' = S ++ J ∧ J[k]? = some (VI d) ∧ r = .vec (S.length + k) d.size 1 ∧ tk' = tk) := by
  refine ACalls.withSc fun hsc => ?_
  simp only [scL, D.sc, Bool.and_true, Bool.true_and, decide_eq_true_eq] at hsc
  refine ACalls.fgoC c158 rfl [0] rfl fun hS => ?_
  repeat' first | with_reducible refine fzD_ite (fun q => ?_) (fun q => ?_) | ((try conv => whnf); first
    | refine bs_d (fun q => ?_) (fun q => ?_)
    | refine bs_n ?_
    | refine bs_i (fun q => ?_) (fun q => ?_)
    | refine eqk rfl ?_
    | refine ffin _ rfl rfl hS (Sub.refl _) rfl ⟨?_, rfl, rfl⟩)
  refine fcut (α := Unit) rfl (fun _ => True) (fun _ => [(1, .d (.fn g [.po cell 0])), (2, .lp 0 0)]) (fun _ => S) (fun _ => [.arr [.vec (S.length + 1) 0 1], .vec [] 3 1]) (fun _ => []) (fun _ _ => ⟨rfl, hS⟩) ?_ fun _ _ => ?_
  · skip
    repeat' first | with_reducible refine fzD_ite (fun q => ?_) (fun q => ?_) | ((try conv => whnf); first
      | refine bs_d (fun q => ?_) (fun q => ?_)
      | refine bs_n ?_
      | refine bs_i (fun q => ?_) (fun q => ?_)
      | refine eqk rfl ?_
      | refine ffin _ rfl rfl hS (Sub.refl _) rfl ⟨?_, rfl, rfl⟩)
    exact fcnext (α := Unit) () trivial rfl (fstep_cellvec (k := 0) (cs := [.nilsl]) 3 1 rfl 0 rfl ⟨Sub.refl _, Sub.refl _, trivial⟩)
  repeat' first | with_reducible refine fzD_ite (fun q => ?_) (fun q => ?_) | ((try conv => whnf); first
    | refine bs_d (fun q => ?_) (fun q => ?_)
    | refine bs_n ?_
    | refine bs_i (fun q => ?_) (fun q => ?_)
    | refine eqk rfl ?_
    | refine ffin _ rfl rfl hS (Sub.refl _) rfl ⟨?_, rfl, rfl⟩)
  conv => whnf
  refine frf rfl rfl rfl hE.ok fun Lp hR => ?_
  rw [List.append_nil]
  have hlp : ∀ (d : Array Int) (st : LoopState), OSc (S.length + 3) (List.length tk) (S ++ [.arr [.vec (S.length + 1) d.size 1], VI d, .lp Lp (frD S.length [(6, .d (.fn g [.po cell 0])), (1, .d (.fn g [.po cell 0])), (2, .lp 0 0)]) st none]) := fun d st => by
    refine hS.more (by omega) (Nat.le_refl _) ?_
    have hsc' : cell < S.length + 3 := by omega
    simp [oScL, oSc, scL, D.sc, frSc, frD, FD.to, hsc', VO, scLL_rows kE]
  refine (hE.h (S.length + 2) (fun d => S ++ [.arr [.vec (S.length + 1) d.size 1], VI d, .lp Lp (frD S.length [(6, .d (.fn g [.po cell 0])), (1, .d (.fn g [.po cell 0])), (2, .lp 0 0)]) .ready none]) (S.length + 3) (fun d => by simp) (fun d => hlp d _) (fun d i o h => at_old h) ?_).mono ?_
  · intro d k it hd
    obtain ⟨X, hX⟩ : ∃ X, X = S ++ [.arr [.vec (S.length + 1) d.size 1], VI d, .lp Lp (frD S.length [(6, .d (.fn g [.po cell 0])), (1, .d (.fn g [.po cell 0])), (2, .lp 0 0)]) .busy none] ++ [it] := ⟨_, rfl⟩
    have hX2 : (S ++ [.arr [.vec (S.length + 1) d.size 1], VI d, .lp Lp (frD S.length [(6, .d (.fn g [.po cell 0])), (1, .d (.fn g [.po cell 0])), (2, .lp 0 0)]) .ready none] ++ [it]).set (S.length + 2) (.lp Lp (frD S.length [(6, .d (.fn g [.po cell 0])), (1, .d (.fn g [.po cell 0])), (2, .lp 0 0)]) .busy none) = X := by
      rw [hX]; simp [List.set_append_right]
    have a0 : X[S.length]? = some (.arr [.vec (S.length + 1) d.size 1]) := by rw [hX]; simp
    have a1 : X[S.length + 1]? = some (VI d) := by rw [hX]; simp
    refine fyield (fr := frD S.length [(6, .d (.fn g [.po cell 0])), (1, .d (.fn g [.po cell 0])), (2, .lp 0 0)]) hR rfl rfl rfl rfl (by simp) rfl fun hO => ?_
    repeat' first | with_reducible refine fzD_ite (fun q => ?_) (fun q => ?_) | ((try conv => whnf); first
      | refine bs_d (fun q => ?_) (fun q => ?_)
      | refine bs_n ?_
      | refine bs_i (fun q => ?_) (fun q => ?_)
      | refine eqk rfl ?_
      | refine ffin _ rfl rfl hS (Sub.refl _) rfl ⟨?_, rfl, rfl⟩)
    refine ⟨rfl, rfl, rfl, rfl, ?_⟩
    rw [hX2]
    repeat' first | with_reducible refine fzD_ite (fun q => ?_) (fun q => ?_) | ((try conv => whnf); first
      | refine bs_d (fun q => ?_) (fun q => ?_)
      | refine bs_n ?_
      | refine bs_i (fun q => ?_) (fun q => ?_)
      | refine pK_i (ldO_old a0 rfl) ?_
      | refine gk_appv_old (by rw [hX]; simp) rfl rfl a1 (by rw [rowsV_len, Array.length_toList]) rfl (by simp) (by rw [rowsV_len, Array.length_toList]; simp [maxLen]; omega) ?_
      | refine gk_stpo_old (by rw [hX]; simp) rfl rfl (by rw [List.getElem?_set_ne (by omega)]; exact a0) rfl ⟨rfl, rfl, rfl, Nat.le_refl _⟩ ?_
      | refine eqk rfl ?_
      | refine ffin _ rfl rfl hS (Sub.refl _) rfl ⟨?_, rfl, rfl⟩)
    refine FRndN.mk ⟨?_, _, _, Shift.refl _ _ _ _, rfl, ?_, List.append_nil _⟩
    · rw [hX]; simp
    · rw [hX, List.append_nil]
      show ((List.set (List.set _ (S.length + 1) _) (S.length + 0) (O.arr [D.vec (S.length + 1) _ 1])).set (S.length + 2) _) = _
      rw [show (rowsV kD d.toList ++ [[D.int IntKind.i64 k]]) = rowsV kD (d.push k).toList from rows_push d k, rowsV_len, Array.length_toList]
      simp [VO]
  · rintro r S' tk' ⟨rfl, rfl, d, hd, rfl⟩
    refine ⟨S, [.arr [.vec (S.length + 1) d.size 1], VI d], [], tk', [], .ready, by simp, by simp, rfl, rfl, by simp, rfl, ?_⟩
    repeat' first | with_reducible refine fzD_ite (fun q => ?_) (fun q => ?_) | ((try conv => whnf); first
      | refine bs_d (fun q => ?_) (fun q => ?_)
      | refine bs_n ?_
      | refine bs_i (fun q => ?_) (fun q => ?_)
      | refine ffinJ ?_
      | refine eqk rfl ?_
      | refine ffin _ rfl rfl hS (Sub.refl _) rfl ⟨?_, rfl, rfl⟩)
    exact ⟨d, _, 1, hd, rfl, rfl, rfl, List.append_nil _⟩

theorem collect {g : FuncId} {cell : Nat} {S : List O} {tk : Tks} {N : Nat} {good : Array Int → Prop} (hN : N < 1099511627776) (hE : Enum g cell S tk N good) :
    ACalls E0 122 [.fn g [.po cell 0]] S tk (fun r S' tk' => ∃ d J k, good d ∧ S' = S ++ J ∧ J[k]? = some (VI d) ∧ r = .vec (S.length + k) d.size 1 ∧ tk' = tk) := by
  refine ACalls.fgo c122 rfl fun hS => ?_
  repeat' first | with_reducible refine fzD_ite (fun q => ?_) (fun q => ?_) | ((try conv => whnf); first
    | refine bs_d (fun q => ?_) (fun q => ?_)
    | refine bs_n ?_
    | refine bs_i (fun q => ?_) (fun q => ?_)
    | (refine ckG (by rw [List.append_nil, List.append_nil]; exact appendSeq hN hE) ?_; rintro r S' tk' ⟨d, J, k, hd, rfl, hJ, rfl, rfl⟩; refine ⟨S, J, tk', [], rfl, (List.append_nil _).symm, rfl, rfl, ?_⟩)
    | refine ffinJ ?_
    | refine eqk rfl ?_
    | refine ffin _ rfl rfl hS (Sub.refl _) rfl ⟨?_, rfl, rfl⟩)
  exact ⟨d, J, k, hd, rfl, hJ, rfl, List.append_nil _⟩

/-- slices.Sorted -/
theorem sorted {g : FuncId} {cell : Nat} {S : List O} {tk : Tks} {N : Nat} {good : Array Int → Prop} (hN : N < 1099511627776) (hg : ∀ d, good d → d.size ≤ N) (hE : Enum g cell S tk N good) :
    ACalls E0 92 [.fn g [.po cell 0]] S tk (fun r S' tk' => ∃ d d', good d ∧ Sorts 0 d.size d d' ∧ r = .sl (rowsV kD d'.toList) ∧ S' = S ∧ tk' = tk) := by
  refine ACalls.fgo c92 rfl fun hS => ?_
  repeat' first | with_reducible refine fzD_ite (fun q => ?_) (fun q => ?_) | ((try conv => whnf); first
    | refine bs_d (fun q => ?_) (fun q => ?_)
    | refine bs_n ?_
    | refine bs_i (fun q => ?_) (fun q => ?_)
    | (refine ckG (by rw [List.append_nil, List.append_nil]; exact collect hN hE) ?_; rintro r S' tk' ⟨d, J, k, hd, rfl, hJ, rfl, rfl⟩; refine ⟨S, J, tk', [], rfl, (List.append_nil _).symm, rfl, rfl, ?_⟩)
    | (refine ckVEJ rfl rfl hJ (fun S0 tk h => sortV (S.length + k) d.size d rfl (by have := hg d hd; omega) S0 tk h) (SubL.refl _) ?_; rintro r d' ⟨rfl, hq⟩; skip)
    | refine eqk rfl ?_
    | refine ffin _ rfl rfl hS (Sub.refl _) rfl ⟨?_, rfl, rfl⟩)
  have e : d.size = (rowsV kD d'.toList).length := by rw [rowsV_len, Array.length_toList, hq.1.1]
  show FFin _ _ _ _ _ _ _ (.vec (S.length + k) d.size 1) _
  rw [e]
  exact ffinV (d' := .top) rfl rfl hS (List.getElem?_set_self (List.getElem?_eq_some_iff.1 hJ).1) (scLL_rows kE _ _ _) ⟨d, d', hd, hq, rfl, rfl, rfl⟩

/-! ## the entries of a map -/

abbrev Ent := Int × D × Nat
def entKv (l : List Ent) : Kv := l.map fun e => (kD e.1, e.2.1, e.2.2)
/-- each entry has a stamp of its own, below the clock -/
structure Stamps (l : List Ent) (clk : Nat) : Prop where
  nodup : (l.map (·.2.2)).Nodup
  lt : ∀ e ∈ l, e.2.2 < clk
theorem Stamps.eq {l : List Ent} {clk : Nat} (h : Stamps l clk) {a b : Ent} (ha : a ∈ l) (hb : b ∈ l) (he : a.2.2 = b.2.2) : a = b := by
  obtain ⟨i, hi, rfl⟩ := List.mem_iff_getElem.1 ha
  obtain ⟨j, hj, rfl⟩ := List.mem_iff_getElem.1 hb
  have h1 := (List.getElem?_inj (i := i) (j := j) (l := l.map (·.2.2)) (by simpa using hi) h.nodup).1 (by simp [List.getElem?_eq_getElem hi, List.getElem?_eq_getElem hj, he])
  subst h1; rfl
theorem nd_of_map {α β : Type} {f : α → β} {l : List α} (h : (l.map f).Nodup) : l.Nodup := by
  rw [List.Nodup, List.pairwise_map] at h
  exact h.imp fun hne he => hne (by rw [he])
theorem Stamps.nd {l : List Ent} {clk : Nat} (h : Stamps l clk) : l.Nodup := nd_of_map h.nodup
theorem Stamps.kveq {l : List Ent} {clk : Nat} (h : Stamps l clk) {e : Ent} (he : e ∈ l) : ∀ q ∈ entKv l, q.2.2 = e.2.2 → q = (kD e.1, e.2.1, e.2.2) := by
  intro q hq hs
  obtain ⟨a, ha, rfl⟩ := List.mem_map.1 hq
  rw [h.eq ha he hs]
theorem Stamps.full {l vs : List Ent} {clk : Nat} (h : Stamps l clk) (hnd : vs.Nodup) (hs : ∀ e ∈ vs, e ∈ l) (hall : ∀ p ∈ entKv l, p.2.2 < clk → p.2.2 ∈ vs.map (·.2.2)) : vs.Perm l := by
  refine (List.perm_ext_iff_of_nodup hnd h.nd).2 fun e => ⟨hs e, fun he => ?_⟩
  obtain ⟨a, ha, hae⟩ := List.mem_map.1 (hall _ (List.mem_map_of_mem he) (h.lt e he))
  rw [h.eq he (hs a ha) hae.symm]; exact ha
theorem Stamps.more {l vs : List Ent} {clk : Nat} (h : Stamps l clk) (hnd : vs.Nodup) (hs : ∀ e ∈ vs, e ∈ l) {e : Ent} (he : e ∈ l) (hn : e.2.2 ∉ vs.map (·.2.2)) :
    (vs ++ [e]).Nodup ∧ (∀ x ∈ vs ++ [e], x ∈ l) ∧ vs.length < l.length := by
  have h1 : (vs ++ [e]).Nodup := by
    refine List.nodup_append.2 ⟨hnd, by simp, fun a ha b hb hab => hn ?_⟩
    rw [List.mem_singleton.1 hb] at hab
    exact hab ▸ List.mem_map_of_mem ha
  have h2 : ∀ x ∈ vs ++ [e], x ∈ l := fun x hx => by
    rcases List.mem_append.1 hx with hx | hx
    · exact hs x hx
    · rw [List.mem_singleton.1 hx]; exact he
  classical
  have := List.Nodup.length_le_of_subset h1 h2
  rw [List.length_append, List.length_singleton] at this
  exact ⟨h1, h2, by omega⟩
theorem entKv_first {l : List Ent} {clk : Nat} (h : Stamps l clk) : entKv l = [] ∨ ∃ p ∈ entKv l, p.2.2 < clk := by
  cases l with
  | nil => exact .inl rfl
  | cons e l => exact .inr ⟨_, List.mem_map_of_mem (List.mem_cons_self ..), h.lt e (List.mem_cons_self ..)⟩
end Go.KL.Ythaoejicodhgaaa

/- what a map holds, as a function of its keys -/
set_option linter.unusedVariables false
set_option linter.unusedSimpArgs false
set_option linter.unusedSectionVars false
set_option maxRecDepth 4000
namespace Go.KL.Ythaoejicodhgaaa
open Go Go.KL Go.RowKit Go.Proofs Go.Sort

def getE (l : List Ent) (k : Int) : Option D := match l with
  | [] => none
  | e :: r => if k = e.1 then some e.2.1 else getE r k
def replE (l : List Ent) (k : Int) (v : D) : List Ent := match l with
  | [] => []
  | e :: r => if k = e.1 then (e.1, v, e.2.2) :: r else e :: replE r k v
def delE (l : List Ent) (k : Int) : List Ent := match l with
  | [] => []
  | e :: r => if k = e.1 then r else e :: delE r k
theorem keyB_kD (a b : Int) : keyB (kD a) (kD b) = decide (a = b) := rfl
theorem mfind_entKv : ∀ (l : List Ent) (k : Int), (mfind (entKv l) (kD k)).map (·.2.1) = getE l k
  | [], k => rfl
  | e :: r, k => by
    have ih := mfind_entKv r k
    simp only [mfind, entKv, List.map_cons, List.find?_cons, keyB_kD, getE] at ih ⊢
    by_cases h : k = e.1
    · simp [h]
    · rw [decide_eq_false h, if_neg h]; exact ih
theorem mget_entKv (z : D) (l : List Ent) (k : Int) : mget z (entKv l) (kD k) = (getE l k).getD z := by
  rw [← mfind_entKv, mget]
  cases mfind (entKv l) (kD k) <;> rfl
theorem mfind_some (l : List Ent) (k : Int) : (mfind (entKv l) (kD k)).isSome = (getE l k).isSome := by
  rw [← mfind_entKv]
  cases mfind (entKv l) (kD k) <;> rfl
theorem mrepl_entKv : ∀ (l : List Ent) (k : Int) (v : D), mrepl (entKv l) (kD k) v = entKv (replE l k v)
  | [], k, v => rfl
  | e :: r, k, v => by
    have ih := mrepl_entKv r k v
    simp only [entKv, List.map_cons, mrepl, keyB_kD, replE] at ih ⊢
    by_cases h : k = e.1
    · simp [h]
    · simp [h, ih]
theorem mdel_entKv : ∀ (l : List Ent) (k : Int), mdel (entKv l) (kD k) = entKv (delE l k)
  | [], k => rfl
  | e :: r, k => by
    have ih := mdel_entKv r k
    simp only [mdel, entKv, List.map_cons, List.eraseP_cons, keyB_kD, delE] at ih ⊢
    by_cases h : k = e.1
    · simp [h]
    · simp [h, ih]
theorem getE_mem : ∀ (l : List Ent) (k : Int), (getE l k).isSome = true ↔ k ∈ l.map (·.1)
  | [], k => by simp [getE]
  | e :: r, k => by
    simp only [getE, List.map_cons, List.mem_cons]
    by_cases h : k = e.1
    · simp [h]
    · simp [h, getE_mem r k]
theorem getE_repl : ∀ (l : List Ent) (k : Int) (v : D), (getE l k).isSome = true → ∀ j, getE (replE l k v) j = if j = k then some v else getE l j
  | [], k, v, h, j => by simp [getE] at h
  | e :: r, k, v, h, j => by
    simp only [getE, replE] at h ⊢
    by_cases hk : k = e.1
    · simp only [hk, if_true, getE]
      by_cases hj : j = e.1 <;> simp [hj]
    · rw [if_neg hk] at h
      simp only [if_neg hk, getE]
      rw [getE_repl r k v h j]
      by_cases hj : j = e.1
      · rw [if_pos hj, if_neg (by omega), if_pos hj]
      · rw [if_neg hj, if_neg hj]
theorem repl_fst : ∀ (l : List Ent) (k : Int) (v : D), (replE l k v).map (·.1) = l.map (·.1)
  | [], k, v => rfl
  | e :: r, k, v => by simp only [replE]; split <;> simp [repl_fst r k v]
theorem repl_st : ∀ (l : List Ent) (k : Int) (v : D), (replE l k v).map (·.2.2) = l.map (·.2.2)
  | [], k, v => rfl
  | e :: r, k, v => by simp only [replE]; split <;> simp [repl_st r k v]
theorem getE_app (l : List Ent) (k : Int) (v : D) (n : Nat) (h : getE l k = none) : ∀ j, getE (l ++ [(k, v, n)]) j = if j = k then some v else getE l j := by
  induction l with
  | nil => intro j; simp [getE]
  | cons e r ih =>
    intro j
    simp only [getE] at h
    split at h
    · cases h
    rename_i hk
    simp only [List.cons_append, getE]
    rw [ih h j]
    by_cases hj : j = e.1
    · rw [if_pos hj, if_neg (by omega), if_pos hj]
    · rw [if_neg hj, if_neg hj]
theorem del_sub : ∀ (l : List Ent) (k : Int), (delE l k).Sublist l
  | [], k => List.Sublist.refl _
  | e :: r, k => by
    simp only [delE]; split
    · exact List.sublist_cons_self ..
    · exact (del_sub r k).cons_cons _
theorem getE_del : ∀ (l : List Ent) (k : Int), (l.map (·.1)).Nodup → ∀ j, getE (delE l k) j = if j = k then none else getE l j
  | [], k, _, j => by simp [getE, delE]
  | e :: r, k, hn, j => by
    simp only [List.map_cons, List.nodup_cons] at hn
    simp only [delE, getE]
    by_cases hk : k = e.1
    · rw [if_pos hk]
      by_cases hj : j = k
      · rw [if_pos hj]
        cases h : getE r j with
        | none => rfl
        | some v => exact absurd ((getE_mem r j).1 (by rw [h]; rfl)) (by rw [hj, hk]; exact hn.1)
      · rw [if_neg hj, if_neg (by omega)]
    · rw [if_neg hk, getE, getE_del r k hn.2 j]
      by_cases hj : j = e.1
      · rw [if_pos hj, if_neg (by omega), if_pos hj]
      · rw [if_neg hj, if_neg hj]

/-- the map l is the function f -/
structure MapR {β : Type} (vl : β → D) (l : List Ent) (clk : Nat) (f : Int → Option β) : Prop where
  st : Stamps l clk
  nd : (l.map (·.1)).Nodup
  get : ∀ k, getE l k = (f k).map vl
def setE (l : List Ent) (clk : Nat) (k : Int) (v : D) : List Ent := if (getE l k).isSome = true then replE l k v else l ++ [(k, v, clk)]
def clkE (l : List Ent) (clk : Nat) (k : Int) : Nat := if (getE l k).isSome = true then clk else clk + 1
theorem mset_entKv (l : List Ent) (clk : Nat) (k : Int) (v : D) : mset (entKv l) clk (kD k) v = entKv (setE l clk k v) := by
  have h := mfind_some l k
  unfold mset setE
  cases hm : mfind (entKv l) (kD k) with
  | some p => rw [hm] at h; rw [if_pos (by rw [← h]; rfl)]; exact mrepl_entKv l k v
  | none => rw [hm] at h; rw [if_neg (by rw [← h]; simp)]; simp [entKv]
theorem mclk_entKv (l : List Ent) (clk : Nat) (k : Int) : mclk (entKv l) clk (kD k) = clkE l clk k := by
  have h := mfind_some l k
  unfold mclk clkE
  cases hm : mfind (entKv l) (kD k) with
  | some p => rw [hm] at h; rw [if_pos (by rw [← h]; rfl)]
  | none => rw [hm] at h; rw [if_neg (by rw [← h]; simp)]
section
variable {β : Type} {vl : β → D} {l : List Ent} {clk : Nat} {f : Int → Option β}
theorem MapR.empty (vl : β → D) : MapR vl [] 0 fun _ => none := ⟨⟨List.nodup_nil, by simp⟩, List.nodup_nil, fun _ => rfl⟩
theorem MapR.mem (h : MapR vl l clk f) (k : Int) : k ∈ l.map (·.1) ↔ (f k).isSome = true := by
  rw [← getE_mem, h.get]; cases f k <;> simp
theorem MapR.set (h : MapR vl l clk f) (k : Int) (v : β) : MapR vl (setE l clk k (vl v)) (clkE l clk k) fun j => if j = k then some v else f j := by
  unfold setE clkE
  by_cases hk : (getE l k).isSome = true
  · rw [if_pos hk, if_pos hk]
    refine ⟨⟨by rw [repl_st]; exact h.st.nodup, fun e he => ?_⟩, by rw [repl_fst]; exact h.nd, fun j => ?_⟩
    · have : e.2.2 ∈ (replE l k (vl v)).map (·.2.2) := List.mem_map_of_mem he
      rw [repl_st] at this
      obtain ⟨a, ha, hae⟩ := List.mem_map.1 this
      rw [← hae]; exact h.st.lt a ha
    · rw [getE_repl l k (vl v) hk j, h.get]; split <;> rfl
  · rw [if_neg hk, if_neg hk]
    have hn : getE l k = none := by cases hg : getE l k with
      | none => rfl
      | some v => rw [hg] at hk; simp at hk
    refine ⟨⟨?_, fun e he => ?_⟩, ?_, fun j => ?_⟩
    · rw [List.map_append, List.nodup_append]
      refine ⟨h.st.nodup, by simp, fun a ha b hb hab => ?_⟩
      obtain ⟨x, hx, rfl⟩ := List.mem_map.1 ha
      simp at hb
      have := h.st.lt x hx
      omega
    · rcases List.mem_append.1 he with he | he
      · have := h.st.lt e he; omega
      · rw [List.mem_singleton.1 he]; exact Nat.lt_succ_self _
    · rw [List.map_append, List.nodup_append]
      refine ⟨h.nd, by simp, fun a ha b hb hab => ?_⟩
      simp at hb
      have := (getE_mem l a).2 ha
      rw [hab, hb] at this
      exact hk this
    · rw [getE_app l k (vl v) clk hn j, h.get]; split <;> rfl
theorem MapR.del (h : MapR vl l clk f) (k : Int) : MapR vl (delE l k) clk fun j => if j = k then none else f j := by
  refine ⟨⟨h.st.nodup.sublist ((del_sub l k).map _), fun e he => h.st.lt e ((del_sub l k).subset he)⟩, h.nd.sublist ((del_sub l k).map _), fun j => ?_⟩
  rw [getE_del l k h.nd j, h.get]; split <;> rfl
theorem setE_len (l : List Ent) (clk : Nat) (k : Int) (v : D) : (setE l clk k v).length ≤ l.length + 1 := by
  unfold setE; split
  · have := congrArg List.length (repl_fst l k v)
    simp at this; omega
  · simp
theorem delE_len (l : List Ent) (k : Int) : (delE l k).length ≤ l.length := (del_sub l k).length_le
end
/-- two rising rows of the same things are the same -/
theorem rising_ext : ∀ {a b : List Int}, a.Pairwise (· < ·) → b.Pairwise (· < ·) → (∀ x, x ∈ a ↔ x ∈ b) → a = b
  | [], [], _, _, _ => rfl
  | [], y :: b, _, _, h => by simpa using (h y).2 (List.mem_cons_self ..)
  | x :: a, [], _, _, h => by simpa using (h x).1 (List.mem_cons_self ..)
  | x :: a, y :: b, ha, hb, h => by
    have ha' := List.pairwise_cons.1 ha
    have hb' := List.pairwise_cons.1 hb
    have e : x = y := by
      have h1 := (h x).1 (List.mem_cons_self ..)
      have h2 := (h y).2 (List.mem_cons_self ..)
      rcases List.mem_cons.1 h1 with h1 | h1
      · exact h1
      · rcases List.mem_cons.1 h2 with h2 | h2
        · exact h2.symm
        · have := hb'.1 x h1; have := ha'.1 y h2; omega
    subst e
    rw [rising_ext ha'.2 hb'.2 fun z => ?_]
    constructor
    · intro hz
      rcases List.mem_cons.1 ((h z).1 (List.mem_cons_of_mem _ hz)) with rfl | h'
      · have := ha'.1 z hz; omega
      · exact h'
    · intro hz
      rcases List.mem_cons.1 ((h z).2 (List.mem_cons_of_mem _ hz)) with rfl | h'
      · have := hb'.1 z hz; omega
      · exact h'
theorem Sorts.list {d d' : Array Int} (h : Sorts 0 d.size d d') : d'.toList.Perm d.toList ∧ d'.toList.Pairwise (· ≤ ·) := by
  obtain ⟨⟨h1, h2, h3⟩, h4⟩ := h
  constructor
  · have e1 : d'.extract 0 d.size = d' := by rw [← h1]; simp
    have e2 : d.extract 0 d.size = d := by simp
    rwa [e1, e2] at h3
  · rw [List.pairwise_iff_getElem]
    intro i j hi hj hij
    have := h4 i j (Nat.zero_le _) hij (by rw [← h1]; simpa using hj)
    rw [Array.length_toList] at hi hj
    rw [getElem!_pos d' i hi, getElem!_pos d' j hj] at this
    simp [ltInt] at this
    simpa using this
/-- the keys, sorted, are rising -/
theorem rising_of {l : List Int} (h1 : l.Pairwise (· ≤ ·)) (h2 : l.Nodup) : l.Pairwise (· < ·) := by
  refine (h1.and h2).imp fun ⟨a, b⟩ => by omega
end Go.KL.Ythaoejicodhgaaa
