/- package invoices and its reference: how old what is open is -/
import Derived.Test.YtmijcaccgbhgdaaDoorInv4
set_option linter.unusedVariables false
set_option linter.unusedSimpArgs false
set_option maxRecDepth 4000
namespace Go.KL.YtmijcaccgbhgdaaDoor
open Go Go.KL Go.RowKit Go.Proofs

theorem c10 : cFun E0.P 10 = some ⟨58, [(4, some (5, true)), (5, none)], .seq (.rg [⟨some 4, none, .alloc [.int .i64 0, .int .i64 0, .int .i64 0, .int .i64 0, .int .i64 0] 32⟩, ⟨some 5, none, .mv (.k (.int .i64 0))⟩]) (.seq (.rg [⟨some 6, none, .alloc [.int .i64 0, .int .i64 0, .int .i64 0, .int .i64 0, .int .i64 0] 32⟩]) (.seq (.rg [⟨some 7, none, .mv (.k (.bool true))⟩]) (.seq (.seq (.rg [⟨some 15, none, .mv (.t 1)⟩, ⟨some 16, none, .buildS 3 1 [.int .i64 0] [(0, .k (.int .i64 1)), (1, .t 15), (2, .k (.int .i64 3652059))] 2⟩, ⟨some 17, none, .call 25 [.t 16]⟩, ⟨some 18, none, .un .not (.t 17)⟩]) (.cond (.t 18) (.seq (.rg [⟨some 19, none, .ld 5 true (.t 6)⟩, ⟨none, none, .st 5 (.t 4) (.t 19)⟩, ⟨some 5, none, .mv (.k (.int .i64 2))⟩]) .ret) .skip)) (.seq (.seq (.rg [⟨some 20, none, .mv (.t 0)⟩, ⟨some 21, none, .len 1 (.t 20)⟩, ⟨some 22, none, .mv (.k (.int .i64 0))⟩]) (.block 0 (.loop (.seq (.rg [⟨some 23, none, .bin .lss .leaf (.t 22) (.t 21)⟩]) (.seq (.cond (.t 23) .skip (.exit 0)) (.seq (.block 1 (.seq (.rg [⟨some 24, none, .ia 11 (.t 20) (.t 22)⟩, ⟨some 25, none, .ld 11 true (.t 24)⟩, ⟨some 9, none, .alloc [.int .u64 0, .int .u64 0, .int .u64 0, .int .i64 0, .int .i64 0, .int .i64 0, .int .i64 0, .int .i64 0, .int .i64 0, .int .i64 0, .int .i64 0] 24⟩, ⟨none, none, .st 11 (.t 9) (.t 25)⟩]) (.seq (.rg [⟨some 27, none, .ld 11 true (.t 9)⟩, ⟨some 28, none, .mv (.t 1)⟩, ⟨some 29, none, .call 8 [.t 27, .t 28]⟩, ⟨some 26, none, .mv (.t 29)⟩, ⟨some 30, none, .ext 0 (.t 26)⟩, ⟨some 31, none, .ext 1 (.t 26)⟩, ⟨some 32, none, .ext 2 (.t 26)⟩, ⟨some 10, none, .mv (.t 30)⟩, ⟨some 11, none, .mv (.t 31)⟩, ⟨some 12, none, .mv (.t 32)⟩]) (.seq (.seq (.rg [⟨some 33, none, .mv (.t 12)⟩, ⟨some 34, none, .bin .neq .leaf (.t 33) (.k (.int .i64 0))⟩]) (.cond (.t 34) (.seq (.rg [⟨some 35, none, .build [.int .i64 0, .int .i64 0, .int .i64 0, .int .i64 0, .int .i64 0] []⟩, ⟨some 36, none, .mv (.t 12)⟩, ⟨none, none, .st 5 (.t 4) (.t 35)⟩, ⟨some 5, none, .mv (.t 36)⟩]) .ret) .skip)) (.seq (.rd [(⟨some 38, none, .mv (.t 11)⟩, false), (⟨some 39, none, .iaA 5 1 (.t 6) (.t 38)⟩, false), (⟨some 40, none, .ld 1 false (.t 39)⟩, false), (⟨some 41, none, .ld 11 true (.t 9)⟩, false), (⟨some 42, none, .call 12 [.t 41]⟩, false), (⟨some 43, none, .call 27 [.t 40, .t 42]⟩, true), (⟨some 37, none, .mv (.t 43)⟩, false), (⟨some 44, none, .ext 0 (.t 37)⟩, false), (⟨some 45, none, .ext 1 (.t 37)⟩, false), (⟨some 13, none, .mv (.t 44)⟩, false), (⟨some 14, none, .mv (.t 45)⟩, false)]) (.rg [⟨some 46, none, .mv (.t 11)⟩, ⟨some 47, none, .mv (.t 13)⟩, ⟨some 48, none, .mv (.t 7)⟩, ⟨some 49, none, .mv (.t 48)⟩, ⟨some 50, some (49, true), .mv (.t 14)⟩, ⟨some 51, none, .pick (.t 49) (.t 50) (.k (.bool false))⟩, ⟨some 52, none, .iaA 5 1 (.t 6) (.t 46)⟩, ⟨none, none, .st 1 (.t 52) (.t 47)⟩, ⟨some 7, none, .mv (.t 51)⟩])))))) (.rg [⟨some 53, none, .bin .add .leaf (.t 22) (.k (.int .i64 1))⟩, ⟨some 22, none, .mv (.t 53)⟩]))))))) (.seq (.seq (.rg [⟨some 54, none, .mv (.t 7)⟩, ⟨some 55, none, .un .not (.t 54)⟩]) (.cond (.t 55) (.seq (.rg [⟨some 56, none, .build [.int .i64 0, .int .i64 0, .int .i64 0, .int .i64 0, .int .i64 0] []⟩, ⟨none, none, .st 5 (.t 4) (.t 56)⟩, ⟨some 5, none, .mv (.k (.int .i64 211))⟩]) .ret) .skip)) (.seq (.rg [⟨some 57, none, .ld 5 true (.t 6)⟩, ⟨none, none, .st 5 (.t 4) (.t 57)⟩, ⟨some 5, none, .mv (.k (.int .i64 0))⟩]) .ret))))))⟩ := by kernel_rfl
theorem c11 : cFun E0.P 11 = some ⟨83, [(4, some (5, true)), (5, none)], .seq (.rg [⟨some 4, none, .alloc [.int .i64 0, .int .i64 0, .int .i64 0, .int .i64 0, .int .i64 0] 32⟩, ⟨some 5, none, .mv (.k (.int .i64 0))⟩]) (.seq (.rg [⟨some 6, none, .alloc [.int .i64 0, .int .i64 0, .int .i64 0, .int .i64 0, .int .i64 0] 32⟩]) (.seq (.seq (.rg [⟨some 19, none, .mv (.t 1)⟩, ⟨some 20, none, .call 26 [.t 19]⟩, ⟨some 21, none, .un .not (.t 20)⟩]) (.cond (.t 21) (.seq (.rg [⟨some 22, none, .ld 5 true (.t 6)⟩, ⟨none, none, .st 5 (.t 4) (.t 22)⟩, ⟨some 5, none, .mv (.k (.int .i64 2))⟩]) .ret) .skip)) (.seq (.seq (.rg [⟨some 7, none, .mv (.k (.int .i64 0))⟩]) (.block 0 (.loop (.seq (.seq (.rg [⟨some 23, none, .mv (.t 7)⟩, ⟨some 24, none, .mv (.t 0)⟩, ⟨some 25, none, .len 1 (.t 24)⟩, ⟨some 26, none, .bin .lss .leaf (.t 23) (.t 25)⟩]) (.cond (.t 26) .skip (.exit 0))) (.seq (.block 1 (.seq (.rg [⟨some 29, none, .mv (.t 0)⟩, ⟨some 30, none, .mv (.t 7)⟩, ⟨some 31, none, .ia 11 (.t 29) (.t 30)⟩, ⟨some 32, none, .ld 11 true (.t 31)⟩, ⟨some 33, none, .call 24 [.t 32]⟩, ⟨some 34, none, .bin .neq .leaf (.t 33) (.k (.int .i64 0))⟩]) (.cond (.t 34) (.seq (.rg [⟨some 35, none, .ld 5 true (.t 6)⟩, ⟨none, none, .st 5 (.t 4) (.t 35)⟩, ⟨some 5, none, .mv (.k (.int .i64 2))⟩]) .ret) .skip))) (.rg [⟨some 27, none, .mv (.t 7)⟩, ⟨some 28, none, .bin .add .leaf (.t 27) (.k (.int .i64 1))⟩, ⟨some 7, none, .mv (.t 28)⟩])))))) (.seq (.rg [⟨some 8, none, .alloc [.int .i64 0, .int .i64 0, .int .i64 0, .int .i64 0, .int .i64 0] 32⟩]) (.seq (.seq (.rg [⟨some 9, none, .mv (.k (.int .i64 0))⟩]) (.block 2 (.loop (.seq (.seq (.rg [⟨some 36, none, .mv (.t 9)⟩, ⟨some 37, none, .bin .lss .leaf (.t 36) (.k (.int .i64 5))⟩]) (.cond (.t 37) .skip (.exit 2))) (.seq (.block 3 (.seq (.rg [⟨some 10, none, .mv (.k .nilsl)⟩]) (.seq (.seq (.rg [⟨some 11, none, .mv (.k (.int .i64 0))⟩]) (.block 4 (.loop (.seq (.seq (.rg [⟨some 40, none, .mv (.t 11)⟩, ⟨some 41, none, .mv (.t 0)⟩, ⟨some 42, none, .len 1 (.t 41)⟩, ⟨some 43, none, .bin .lss .leaf (.t 40) (.t 42)⟩]) (.cond (.t 43) .skip (.exit 4))) (.seq (.block 5 (.seq (.rg [⟨some 47, none, .mv (.t 0)⟩, ⟨some 48, none, .mv (.t 11)⟩, ⟨some 49, none, .ia 11 (.t 47) (.t 48)⟩, ⟨some 50, none, .ld 11 true (.t 49)⟩, ⟨some 51, none, .mv (.t 1)⟩, ⟨some 52, none, .call 9 [.t 50, .t 51]⟩, ⟨some 46, none, .mv (.t 52)⟩, ⟨some 53, none, .ext 0 (.t 46)⟩, ⟨some 54, none, .ext 1 (.t 46)⟩, ⟨some 55, none, .ext 2 (.t 46)⟩, ⟨some 12, none, .mv (.t 53)⟩, ⟨some 13, none, .mv (.t 54)⟩, ⟨some 14, none, .mv (.t 55)⟩]) (.seq (.rg [⟨some 57, none, .mv (.t 0)⟩, ⟨some 58, none, .mv (.t 11)⟩, ⟨some 59, none, .ia 11 (.t 57) (.t 58)⟩, ⟨some 60, none, .ld 11 true (.t 59)⟩, ⟨some 61, none, .call 22 [.t 60]⟩, ⟨some 56, none, .mv (.t 61)⟩, ⟨some 62, none, .ext 0 (.t 56)⟩, ⟨some 63, none, .ext 1 (.t 56)⟩, ⟨some 15, none, .mv (.t 62)⟩, ⟨some 16, none, .mv (.t 63)⟩]) (.seq (.rg [⟨some 64, none, .mv (.t 13)⟩, ⟨some 65, none, .mv (.t 9)⟩, ⟨some 66, none, .bin .eql .leaf (.t 64) (.t 65)⟩]) (.cond (.t 66) (.rg [⟨some 67, none, .mv (.t 10)⟩, ⟨some 68, none, .mv (.t 15)⟩, ⟨some 69, none, .buildS 1 1 [.int .i64 0] [(0, .t 68)] 2⟩, ⟨some 70, none, .app 38 2 1 8 [.int .i64 0] (.t 67) (.t 69)⟩, ⟨some 10, none, .mv (.t 70)⟩]) .skip))))) (.rg [⟨some 44, none, .mv (.t 11)⟩, ⟨some 45, none, .bin .add .leaf (.t 44) (.k (.int .i64 1))⟩, ⟨some 11, none, .mv (.t 45)⟩])))))) (.seq (.rg [⟨some 72, none, .mv (.t 10)⟩, ⟨some 73, none, .call 28 [.t 72]⟩, ⟨some 71, none, .mv (.t 73)⟩, ⟨some 74, none, .ext 0 (.t 71)⟩, ⟨some 75, none, .ext 1 (.t 71)⟩, ⟨some 17, none, .mv (.t 74)⟩, ⟨some 18, none, .mv (.t 75)⟩]) (.seq (.seq (.rg [⟨some 76, none, .mv (.t 18)⟩, ⟨some 77, none, .un .not (.t 76)⟩]) (.cond (.t 77) (.seq (.rg [⟨some 78, none, .ld 5 true (.t 6)⟩, ⟨none, none, .st 5 (.t 4) (.t 78)⟩, ⟨some 5, none, .mv (.k (.int .i64 211))⟩]) .ret) .skip)) (.rg [⟨some 79, none, .mv (.t 9)⟩, ⟨some 80, none, .mv (.t 17)⟩, ⟨some 81, none, .iaA 5 1 (.t 8) (.t 79)⟩, ⟨none, none, .st 1 (.t 81) (.t 80)⟩])))))) (.rg [⟨some 38, none, .mv (.t 9)⟩, ⟨some 39, none, .bin .add .leaf (.t 38) (.k (.int .i64 1))⟩, ⟨some 9, none, .mv (.t 39)⟩])))))) (.seq (.rg [⟨some 82, none, .ld 5 true (.t 8)⟩, ⟨none, none, .st 5 (.t 4) (.t 82)⟩, ⟨some 5, none, .mv (.k (.int .i64 0))⟩]) .ret))))))⟩ := by kernel_rfl

def addD (a b : Int) : D := if -9223372036854775808 ≤ a + b ∧ a + b < 9223372036854775808 then .tup [.int .i64 (a + b), .bool true] else .tup [.int .i64 0, .bool false]
theorem addD_eq (a b : Int) : sumS [a, b] = addD a b := by
  rw [sumS, addD, show [a, b].sum = a + b from by simp]
theorem Add (a b : Int) (ha : I64 a) (hb : I64 b) : Pure 27 [.int .i64 a, .int .i64 b] (addD a b) := by
  intro S tk
  rw [← addD_eq]
  have hc := Sum [a, b] (by simp) (by simp [ha, hb])
  refine ACalls.fgo c27 rfl fun hS => ?_
  repeat' first | with_reducible refine fzD_ite (fun q => ?_) (fun q => ?_) | ((try conv => whnf); first
    | refine bs_d (fun q => ?_) (fun q => ?_)
    | refine bs_n ?_
    | refine bs_i (fun q => ?_) (fun q => ?_)
    | refine ck rfl rfl (hc) ?_
    | refine cq (hc) ?_
    | refine ffin _ rfl rfl hS (Sub.refl _) rfl ⟨?_, rfl, rfl⟩)
  · rw [sumS, if_pos ‹_›]; rfl
  · rw [sumS, if_neg ‹_›]; rfl

def ivs (l : List Iv) : List (List D) := l.map Iv.cs
theorem ivs_len (l : List Iv) : (ivs l).length = l.length := List.length_map ..
theorem iaD_ivs {l : List Iv} {k : IntKind} {n : Int} {x : Iv} (h0 : 0 ≤ n) (he : l[n.toNat]? = some x) : iaD 11 (.sl (ivs l)) (.int k n) = some (.pe x.cs 0) := iaD_map (f := Iv.cs) h0 he rfl

def Iv.age (day : Int) (x : Iv) : Int := ageOf (max (day - x.due) 0)
theorem age_cases (day : Int) (x : Iv) : x.age day = 0 ∨ x.age day = 1 ∨ x.age day = 2 ∨ x.age day = 3 ∨ x.age day = 4 := by
  unfold Iv.age ageOf; repeat' split
  all_goals simp
/-- all that is open of an age -/
def agesum (day : Int) : List Iv → Int → Int
  | [], _ => 0
  | x :: r, a => (if x.age day = a then x.op else 0) + agesum day r a
theorem agesum_app (day : Int) (p q : List Iv) (a : Int) : agesum day (p ++ q) a = agesum day p a + agesum day q a := by
  induction p with
  | nil => simp [agesum]
  | cons x r ih => simp only [List.cons_append, agesum, ih]; omega
theorem agesum_nn (day : Int) : ∀ (l : List Iv) (a : Int), 0 ≤ agesum day l a
  | [], _ => Int.le_refl _
  | x :: r, a => by
    have := agesum_nn day r a
    have := op_bd x
    simp only [agesum]; split <;> omega
theorem agesum_take {day : Int} {l : List Iv} {i : Nat} {x : Iv} (h : l[i]? = some x) (a : Int) : agesum day (l.take (i + 1)) a = agesum day (l.take i) a + (if x.age day = a then x.op else 0) := by
  rw [List.take_add_one, h, Option.toList_some, agesum_app]
  simp [agesum]
theorem agesum_le (day : Int) (l : List Iv) (i : Nat) (a : Int) : agesum day (l.take i) a ≤ agesum day l a := by
  have h := agesum_app day (l.take i) (l.drop i) a
  rw [List.take_append_drop] at h
  have := agesum_nn day (l.drop i) a
  omega

def zero5 : D := .agg [.int .i64 0, .int .i64 0, .int .i64 0, .int .i64 0, .int .i64 0]
def fits (day : Int) (l : List Iv) : Prop := ∀ a : Int, 0 ≤ a → a < 5 → agesum day l a < 9223372036854775808
def agesD (day : Int) (l : List Iv) (e : Int) : D := if e = 0 then .tup [.agg [.int .i64 (agesum day l 0), .int .i64 (agesum day l 1), .int .i64 (agesum day l 2), .int .i64 (agesum day l 3), .int .i64 (agesum day l 4)], .int .i64 0] else .tup [zero5, .int .i64 e]
open Classical in
noncomputable def agesE (day : Int) (l : List Iv) : Int := if 1 ≤ day ∧ day ≤ 3652059 ∧ ∀ x ∈ l, x.ok then (if fits day l then 0 else 211) else 2

structure AgS where
  i : Nat
  o : Nat → Int
  f : Bool
def AgS.P (day : Int) (l : List Iv) (s : AgS) : Prop := s.i ≤ l.length ∧ (∀ x ∈ l.take s.i, x.ok) ∧ (∀ k, 0 ≤ s.o k ∧ s.o k < 9223372036854775808) ∧
  (if s.f = true then ∀ k : Nat, k < 5 → s.o k = agesum day (l.take s.i) k else ∃ k : Nat, k < 5 ∧ 9223372036854775808 ≤ agesum day (l.take s.i) k)

theorem AgS.step {day : Int} {l : List Iv} {i : Nat} {o : Nat → Int} {f : Bool} {x : Iv} {k : Nat} (h : AgS.P day l ⟨i, o, f⟩) (hxi : l[i]? = some x) (hxo : x.ok) (ha : x.age day = k) (hk : k < 5) :
    (o k + x.op < 9223372036854775808 → AgS.P day l ⟨i + 1, fun j => if j = k then o k + x.op else o j, f⟩) ∧
    (¬ o k + x.op < 9223372036854775808 → AgS.P day l ⟨i + 1, fun j => if j = k then 0 else o j, false⟩) := by
  obtain ⟨hi, hok, hr, hf⟩ := h
  simp only at hi hok hr hf
  have hi2 : i < l.length := (List.getElem?_eq_some_iff.1 hxi).1
  have hb := op_bd x
  have hok' : ∀ y ∈ l.take (i + 1), y.ok := by
    intro y hy
    rw [List.take_add_one, hxi, Option.toList_some, List.mem_append] at hy
    rcases hy with hy | hy
    · exact hok y hy
    · rw [List.mem_singleton.1 hy]; exact hxo
  refine ⟨fun hs => ⟨by simp only; omega, hok', fun j => ?_, ?_⟩, fun hs => ⟨by simp only; omega, hok', fun j => ?_, ?_⟩⟩
  · have := hr k; have := hr j
    simp only
    split <;> omega
  · simp only
    cases f with
    | true =>
      simp only [if_true] at hf ⊢
      intro j hj
      rw [agesum_take hxi, ha]
      by_cases hjk : j = k
      · subst hjk; rw [if_pos rfl, if_pos rfl, hf j hj]
      · rw [if_neg hjk, if_neg (by omega), hf j hj]; omega
    | false =>
      simp only [Bool.false_eq_true, if_false] at hf ⊢
      obtain ⟨j, hj, hj2⟩ := hf
      refine ⟨j, hj, ?_⟩
      rw [agesum_take hxi]
      split <;> omega
  · have := hr j
    simp only
    split <;> omega
  · simp only [Bool.false_eq_true, if_false]
    cases f with
    | true =>
      simp only [if_true] at hf
      refine ⟨k, hk, ?_⟩
      rw [agesum_take hxi, ha, if_pos rfl, ← hf k hk]
      omega
    | false =>
      simp only [Bool.false_eq_true, if_false] at hf
      obtain ⟨j, hj, hj2⟩ := hf
      refine ⟨j, hj, ?_⟩
      rw [agesum_take hxi]
      split <;> omega

def agF (l : List Iv) (day : Int) (s : AgS) : Fr := [(22, .d (.int .i64 s.i)), (20, .d (.sl (ivs l))), (21, .d (.int .i64 (ivs l).length)), (1, .d (.int .i64 day)), (4, .lp 0 0), (6, .lp 1 0), (7, .d (.bool s.f))]
def agJ (s : AgS) : List O := [.arr [.int .i64 0, .int .i64 0, .int .i64 0, .int .i64 0, .int .i64 0], .arr [.int .i64 (s.o 0), .int .i64 (s.o 1), .int .i64 (s.o 2), .int .i64 (s.o 3), .int .i64 (s.o 4)]]

theorem Ages (l : List Iv) (hl : l.length < 4611686018427387904) (hx : ∀ x ∈ l, x.R) (day : Int) (hd : I64 day) : Pure 10 [.sl (ivs l), .int .i64 day] (agesD day l (agesE day l)) := by
  intro S tk
  refine ACalls.withSc fun hsc => ?_
  have hsc' : scLL S.length tk.length (ivs l) = true := by simp only [scL, D.sc, Bool.and_true] at hsc; exact hsc
  have hfr : ∀ s : AgS, frSc (S.length + 2) (tk.length + 0) (frD S.length (agF l day s)) = true := fun s => by
    simp only [agF, frD, FD.to, frSc, D.sc, Bool.true_and, Bool.and_true, Bool.and_eq_true, decide_eq_true_eq]
    exact ⟨scLL_mono (by omega) (by omega) hsc', by omega, by omega⟩
  have hw := within [1, day, 3652059] (by simp)
  by_cases h1 : 1 ≤ day ∧ day ≤ 3652059
  · rw [show withinS [1, day, 3652059] = true from by rw [withinS_cons, decide_eq_true h1]; rfl] at hw
    refine ACalls.fgo c10 rfl fun hS => ?_
    repeat' first | with_reducible refine fzD_ite (fun q => ?_) (fun q => ?_) | ((try conv => whnf); first
      | refine bs_d (fun q => ?_) (fun q => ?_)
      | refine bs_n ?_
      | refine bs_i (fun q => ?_) (fun q => ?_)
      | refine ck rfl rfl (hw) ?_
      | refine cq (hw) ?_
      | refine ffin _ rfl rfl hS (Sub.refl _) rfl ⟨?_, rfl, rfl⟩)
    refine floop (α := AgS) rfl rfl hS (AgS.P day l) (fun s => l.length - s.i) (agF l day) agJ (fun _ => []) ⟨0, fun _ => 0, true⟩ ⟨by simp, by simp, by simp, by simp [agesum]⟩ (fstep_sub ⟨Sub.refl _, Sub.refl _, Sub.refl _, Sub.refl _, Sub.refl _, Sub.refl _, Sub.refl _, trivial⟩) ?_
    rintro ⟨i, o, f⟩ hP
    have ⟨hi, hok, hr, hf⟩ := hP
    simp only at hi hok hr hf
    refine bs_d (fun (h : (i : Int) < ((ivs l).length : Int)) => ?_) (fun (h : ¬ (i : Int) < ((ivs l).length : Int)) => ?_)
    · rw [ivs_len] at h
      have hi2 : i < l.length := by omega
      have hxi : l[i]? = some l[i] := List.getElem?_eq_getElem hi2
      have hxR := hx l[i] (List.getElem_mem hi2)
      have hxl : l[i] ∈ l := List.getElem_mem hi2
      generalize l[i] = x at hxi hxR hxl
      have hlate := Late x hxR day hd
      have hopen := Open x hxR
      have hob := op_bd x
      refine pK_i (iaD_ivs (x := x) (by omega) (by simpa using hxi)) ?_
      by_cases hxo : x.ok
      · rw [lateD, if_pos ⟨hxo, h1⟩, show ageOf (max (day - x.due) 0) = x.age day from rfl] at hlate
        have ei : IntKind.wrap .i64 ((i : Int) + 1) = ((i + 1 : Nat) : Int) := by rw [wi64]; omega
        rcases age_cases day x with ha | ha | ha | ha | ha
        all_goals rw [ha] at hlate
        · have hadd := Add (o 0) x.op (by have := hr 0; unfold I64; omega) (by unfold I64; omega)
          rw [addD] at hadd
          have hst := AgS.step hP hxi hxo (k := 0) ha (by omega)
          have hrk := hr 0
          cases f
          · skip
            repeat' first | with_reducible refine fzD_ite (fun q => ?_) (fun q => ?_) | ((try conv => whnf); first
              | refine bs_d (fun q => ?_) (fun q => ?_)
              | refine bs_n ?_
              | refine bs_i (fun q => ?_) (fun q => ?_)
              | refine ck rfl rfl (hlate) ?_
              | refine cq (hlate) ?_
              | refine ck rfl rfl (hopen) ?_
              | refine cq (hopen) ?_
              | refine ck rfl rfl (hadd) ?_
              | refine cq (hadd) ?_
              | refine fnext ⟨i + 1, fun j => if j = 0 then _ else o j, _⟩ ?_ (by simp only; omega) (fstep_drop (J' := [_, _]) (Jx := [_]) rfl rfl ⟨Sub.int ei, Sub.refl _, Sub.refl _, Sub.refl _, Sub.refl _, Sub.refl _, Sub.refl _, trivial⟩ (hfr _) rfl)
              | refine ffin _ rfl rfl hS (Sub.refl _) rfl ⟨?_, rfl, rfl⟩)
            · exact hst.1 (by omega)
            · exact hst.2 (by omega)
          · skip
            repeat' first | with_reducible refine fzD_ite (fun q => ?_) (fun q => ?_) | ((try conv => whnf); first
              | refine bs_d (fun q => ?_) (fun q => ?_)
              | refine bs_n ?_
              | refine bs_i (fun q => ?_) (fun q => ?_)
              | refine ck rfl rfl (hlate) ?_
              | refine cq (hlate) ?_
              | refine ck rfl rfl (hopen) ?_
              | refine cq (hopen) ?_
              | refine ck rfl rfl (hadd) ?_
              | refine cq (hadd) ?_
              | refine fnext ⟨i + 1, fun j => if j = 0 then _ else o j, _⟩ ?_ (by simp only; omega) (fstep_drop (J' := [_, _]) (Jx := [_]) rfl rfl ⟨Sub.int ei, Sub.refl _, Sub.refl _, Sub.refl _, Sub.refl _, Sub.refl _, Sub.refl _, trivial⟩ (hfr _) rfl)
              | refine ffin _ rfl rfl hS (Sub.refl _) rfl ⟨?_, rfl, rfl⟩)
            · exact hst.1 (by omega)
            · exact hst.2 (by omega)
        · have hadd := Add (o 1) x.op (by have := hr 1; unfold I64; omega) (by unfold I64; omega)
          rw [addD] at hadd
          have hst := AgS.step hP hxi hxo (k := 1) ha (by omega)
          have hrk := hr 1
          cases f
          · skip
            repeat' first | with_reducible refine fzD_ite (fun q => ?_) (fun q => ?_) | ((try conv => whnf); first
              | refine bs_d (fun q => ?_) (fun q => ?_)
              | refine bs_n ?_
              | refine bs_i (fun q => ?_) (fun q => ?_)
              | refine ck rfl rfl (hlate) ?_
              | refine cq (hlate) ?_
              | refine ck rfl rfl (hopen) ?_
              | refine cq (hopen) ?_
              | refine ck rfl rfl (hadd) ?_
              | refine cq (hadd) ?_
              | refine fnext ⟨i + 1, fun j => if j = 1 then _ else o j, _⟩ ?_ (by simp only; omega) (fstep_drop (J' := [_, _]) (Jx := [_]) rfl rfl ⟨Sub.int ei, Sub.refl _, Sub.refl _, Sub.refl _, Sub.refl _, Sub.refl _, Sub.refl _, trivial⟩ (hfr _) rfl)
              | refine ffin _ rfl rfl hS (Sub.refl _) rfl ⟨?_, rfl, rfl⟩)
            · exact hst.1 (by omega)
            · exact hst.2 (by omega)
          · skip
            repeat' first | with_reducible refine fzD_ite (fun q => ?_) (fun q => ?_) | ((try conv => whnf); first
              | refine bs_d (fun q => ?_) (fun q => ?_)
              | refine bs_n ?_
              | refine bs_i (fun q => ?_) (fun q => ?_)
              | refine ck rfl rfl (hlate) ?_
              | refine cq (hlate) ?_
              | refine ck rfl rfl (hopen) ?_
              | refine cq (hopen) ?_
              | refine ck rfl rfl (hadd) ?_
              | refine cq (hadd) ?_
              | refine fnext ⟨i + 1, fun j => if j = 1 then _ else o j, _⟩ ?_ (by simp only; omega) (fstep_drop (J' := [_, _]) (Jx := [_]) rfl rfl ⟨Sub.int ei, Sub.refl _, Sub.refl _, Sub.refl _, Sub.refl _, Sub.refl _, Sub.refl _, trivial⟩ (hfr _) rfl)
              | refine ffin _ rfl rfl hS (Sub.refl _) rfl ⟨?_, rfl, rfl⟩)
            · exact hst.1 (by omega)
            · exact hst.2 (by omega)
        · have hadd := Add (o 2) x.op (by have := hr 2; unfold I64; omega) (by unfold I64; omega)
          rw [addD] at hadd
          have hst := AgS.step hP hxi hxo (k := 2) ha (by omega)
          have hrk := hr 2
          cases f
          · skip
            repeat' first | with_reducible refine fzD_ite (fun q => ?_) (fun q => ?_) | ((try conv => whnf); first
              | refine bs_d (fun q => ?_) (fun q => ?_)
              | refine bs_n ?_
              | refine bs_i (fun q => ?_) (fun q => ?_)
              | refine ck rfl rfl (hlate) ?_
              | refine cq (hlate) ?_
              | refine ck rfl rfl (hopen) ?_
              | refine cq (hopen) ?_
              | refine ck rfl rfl (hadd) ?_
              | refine cq (hadd) ?_
              | refine fnext ⟨i + 1, fun j => if j = 2 then _ else o j, _⟩ ?_ (by simp only; omega) (fstep_drop (J' := [_, _]) (Jx := [_]) rfl rfl ⟨Sub.int ei, Sub.refl _, Sub.refl _, Sub.refl _, Sub.refl _, Sub.refl _, Sub.refl _, trivial⟩ (hfr _) rfl)
              | refine ffin _ rfl rfl hS (Sub.refl _) rfl ⟨?_, rfl, rfl⟩)
            · exact hst.1 (by omega)
            · exact hst.2 (by omega)
          · skip
            repeat' first | with_reducible refine fzD_ite (fun q => ?_) (fun q => ?_) | ((try conv => whnf); first
              | refine bs_d (fun q => ?_) (fun q => ?_)
              | refine bs_n ?_
              | refine bs_i (fun q => ?_) (fun q => ?_)
              | refine ck rfl rfl (hlate) ?_
              | refine cq (hlate) ?_
              | refine ck rfl rfl (hopen) ?_
              | refine cq (hopen) ?_
              | refine ck rfl rfl (hadd) ?_
              | refine cq (hadd) ?_
              | refine fnext ⟨i + 1, fun j => if j = 2 then _ else o j, _⟩ ?_ (by simp only; omega) (fstep_drop (J' := [_, _]) (Jx := [_]) rfl rfl ⟨Sub.int ei, Sub.refl _, Sub.refl _, Sub.refl _, Sub.refl _, Sub.refl _, Sub.refl _, trivial⟩ (hfr _) rfl)
              | refine ffin _ rfl rfl hS (Sub.refl _) rfl ⟨?_, rfl, rfl⟩)
            · exact hst.1 (by omega)
            · exact hst.2 (by omega)
        · have hadd := Add (o 3) x.op (by have := hr 3; unfold I64; omega) (by unfold I64; omega)
          rw [addD] at hadd
          have hst := AgS.step hP hxi hxo (k := 3) ha (by omega)
          have hrk := hr 3
          cases f
          · skip
            repeat' first | with_reducible refine fzD_ite (fun q => ?_) (fun q => ?_) | ((try conv => whnf); first
              | refine bs_d (fun q => ?_) (fun q => ?_)
              | refine bs_n ?_
              | refine bs_i (fun q => ?_) (fun q => ?_)
              | refine ck rfl rfl (hlate) ?_
              | refine cq (hlate) ?_
              | refine ck rfl rfl (hopen) ?_
              | refine cq (hopen) ?_
              | refine ck rfl rfl (hadd) ?_
              | refine cq (hadd) ?_
              | refine fnext ⟨i + 1, fun j => if j = 3 then _ else o j, _⟩ ?_ (by simp only; omega) (fstep_drop (J' := [_, _]) (Jx := [_]) rfl rfl ⟨Sub.int ei, Sub.refl _, Sub.refl _, Sub.refl _, Sub.refl _, Sub.refl _, Sub.refl _, trivial⟩ (hfr _) rfl)
              | refine ffin _ rfl rfl hS (Sub.refl _) rfl ⟨?_, rfl, rfl⟩)
            · exact hst.1 (by omega)
            · exact hst.2 (by omega)
          · skip
            repeat' first | with_reducible refine fzD_ite (fun q => ?_) (fun q => ?_) | ((try conv => whnf); first
              | refine bs_d (fun q => ?_) (fun q => ?_)
              | refine bs_n ?_
              | refine bs_i (fun q => ?_) (fun q => ?_)
              | refine ck rfl rfl (hlate) ?_
              | refine cq (hlate) ?_
              | refine ck rfl rfl (hopen) ?_
              | refine cq (hopen) ?_
              | refine ck rfl rfl (hadd) ?_
              | refine cq (hadd) ?_
              | refine fnext ⟨i + 1, fun j => if j = 3 then _ else o j, _⟩ ?_ (by simp only; omega) (fstep_drop (J' := [_, _]) (Jx := [_]) rfl rfl ⟨Sub.int ei, Sub.refl _, Sub.refl _, Sub.refl _, Sub.refl _, Sub.refl _, Sub.refl _, trivial⟩ (hfr _) rfl)
              | refine ffin _ rfl rfl hS (Sub.refl _) rfl ⟨?_, rfl, rfl⟩)
            · exact hst.1 (by omega)
            · exact hst.2 (by omega)
        · have hadd := Add (o 4) x.op (by have := hr 4; unfold I64; omega) (by unfold I64; omega)
          rw [addD] at hadd
          have hst := AgS.step hP hxi hxo (k := 4) ha (by omega)
          have hrk := hr 4
          cases f
          · skip
            repeat' first | with_reducible refine fzD_ite (fun q => ?_) (fun q => ?_) | ((try conv => whnf); first
              | refine bs_d (fun q => ?_) (fun q => ?_)
              | refine bs_n ?_
              | refine bs_i (fun q => ?_) (fun q => ?_)
              | refine ck rfl rfl (hlate) ?_
              | refine cq (hlate) ?_
              | refine ck rfl rfl (hopen) ?_
              | refine cq (hopen) ?_
              | refine ck rfl rfl (hadd) ?_
              | refine cq (hadd) ?_
              | refine fnext ⟨i + 1, fun j => if j = 4 then _ else o j, _⟩ ?_ (by simp only; omega) (fstep_drop (J' := [_, _]) (Jx := [_]) rfl rfl ⟨Sub.int ei, Sub.refl _, Sub.refl _, Sub.refl _, Sub.refl _, Sub.refl _, Sub.refl _, trivial⟩ (hfr _) rfl)
              | refine ffin _ rfl rfl hS (Sub.refl _) rfl ⟨?_, rfl, rfl⟩)
            · exact hst.1 (by omega)
            · exact hst.2 (by omega)
          · skip
            repeat' first | with_reducible refine fzD_ite (fun q => ?_) (fun q => ?_) | ((try conv => whnf); first
              | refine bs_d (fun q => ?_) (fun q => ?_)
              | refine bs_n ?_
              | refine bs_i (fun q => ?_) (fun q => ?_)
              | refine ck rfl rfl (hlate) ?_
              | refine cq (hlate) ?_
              | refine ck rfl rfl (hopen) ?_
              | refine cq (hopen) ?_
              | refine ck rfl rfl (hadd) ?_
              | refine cq (hadd) ?_
              | refine fnext ⟨i + 1, fun j => if j = 4 then _ else o j, _⟩ ?_ (by simp only; omega) (fstep_drop (J' := [_, _]) (Jx := [_]) rfl rfl ⟨Sub.int ei, Sub.refl _, Sub.refl _, Sub.refl _, Sub.refl _, Sub.refl _, Sub.refl _, trivial⟩ (hfr _) rfl)
              | refine ffin _ rfl rfl hS (Sub.refl _) rfl ⟨?_, rfl, rfl⟩)
            · exact hst.1 (by omega)
            · exact hst.2 (by omega)
      · rw [lateD, if_neg (fun h => hxo h.1)] at hlate
        repeat' first | with_reducible refine fzD_ite (fun q => ?_) (fun q => ?_) | ((try conv => whnf); first
          | refine bs_d (fun q => ?_) (fun q => ?_)
          | refine bs_n ?_
          | refine bs_i (fun q => ?_) (fun q => ?_)
          | refine ck rfl rfl (hlate) ?_
          | refine cq (hlate) ?_
          | refine ffin _ rfl rfl hS (Sub.refl _) rfl ⟨?_, rfl, rfl⟩)
        show D.tup _ = _
        rw [agesE, if_neg (fun h => hxo (h.2.2 x hxl))]
        rfl
    · rw [ivs_len] at h
      have hi2 : i = l.length := by omega
      subst hi2
      rw [List.take_length] at hok hf
      cases f with
      | true =>
        simp only [if_true] at hf
        repeat' first | with_reducible refine fzD_ite (fun q => ?_) (fun q => ?_) | ((try conv => whnf); first
          | refine bs_d (fun q => ?_) (fun q => ?_)
          | refine bs_n ?_
          | refine bs_i (fun q => ?_) (fun q => ?_)
          | refine ffin _ rfl rfl hS (Sub.refl _) rfl ⟨?_, rfl, rfl⟩)
        show D.tup _ = _
        have hfit : fits day l := fun a h0 h5 => by obtain ⟨k, rfl⟩ := Int.eq_ofNat_of_zero_le h0; rw [← hf k (by omega)]; exact (hr k).2
        rw [agesE, if_pos ⟨h1.1, h1.2, hok⟩, if_pos hfit, agesD, if_pos rfl]
        have e0 : o 0 = agesum day l 0 := by simpa using hf 0 (by omega)
        have e1 : o 1 = agesum day l 1 := by simpa using hf 1 (by omega)
        have e2 : o 2 = agesum day l 2 := by simpa using hf 2 (by omega)
        have e3 : o 3 = agesum day l 3 := by simpa using hf 3 (by omega)
        have e4 : o 4 = agesum day l 4 := by simpa using hf 4 (by omega)
        rw [← e0, ← e1, ← e2, ← e3, ← e4]
      | false =>
        simp only [Bool.false_eq_true, if_false] at hf
        obtain ⟨k, hk, hk2⟩ := hf
        repeat' first | with_reducible refine fzD_ite (fun q => ?_) (fun q => ?_) | ((try conv => whnf); first
          | refine bs_d (fun q => ?_) (fun q => ?_)
          | refine bs_n ?_
          | refine bs_i (fun q => ?_) (fun q => ?_)
          | refine ffin _ rfl rfl hS (Sub.refl _) rfl ⟨?_, rfl, rfl⟩)
        show D.tup _ = _
        rw [agesE, if_pos ⟨h1.1, h1.2, hok⟩, if_neg (fun hh => by have := hh k (by omega) (by omega); omega)]
        rfl
  · rw [show withinS [1, day, 3652059] = false from by rw [withinS_cons, decide_eq_false h1]; rfl] at hw
    refine ACalls.fgo c10 rfl fun hS => ?_
    repeat' first | with_reducible refine fzD_ite (fun q => ?_) (fun q => ?_) | ((try conv => whnf); first
      | refine bs_d (fun q => ?_) (fun q => ?_)
      | refine bs_n ?_
      | refine bs_i (fun q => ?_) (fun q => ?_)
      | refine ck rfl rfl (hw) ?_
      | refine cq (hw) ?_
      | refine ffin _ rfl rfl hS (Sub.refl _) rfl ⟨?_, rfl, rfl⟩)
    show D.tup _ = _
    rw [agesE, if_neg (fun h => h1 ⟨h.1, h.2.1⟩)]
    rfl

end Go.KL.YtmijcaccgbhgdaaDoor
