/- The program's surroundings. -/
import Derived.Test.YtjjdfplonbgpbaaDoorKL31
import Derived.Test.YtjjdfplonbgpbaaDoorProg
import Derived.KernelRfl
import Derived.Test.YtjjdfplonbgpbaaDoorKL33
import Derived.Test.YtjjdfplonbgpbaaDoorKL34
import Derived.Lib.BitFns
import Derived.Laws.Bits64
import Derived.Laws.Bits64b
import Derived.Sort.LotD1
set_option linter.unusedVariables false
set_option linter.unusedSimpArgs false
set_option linter.unusedSectionVars false
set_option maxRecDepth 4000
namespace Go.KL.YtjjdfplonbgpbaaDoor
open Go Go.KL Go.RowKit Go.Proofs
noncomputable def E0 : Env where
  P := Tryd.prog
  G := fun g => if g = 0 then some [.int .i64 0, .int .i64 30, .int .i64 60, .int .i64 90] else none
  hG := by intro g e h n m; (repeat' split at h) <;> cases h <;> rfl
  hmix := by kernel_rfl

def Pure (f : FuncId) (ds : List D) (d : D) : Prop := ∀ S tk, ACalls E0 f ds S tk (fun r S' tk' => r = d ∧ S' = S ∧ tk' = tk)

def i64s (l : List Int) : List (List D) := l.map fun n => [.int .i64 n]
theorem i64s_len (l : List Int) : (i64s l).length = l.length := List.length_map ..
theorem iaD_i64s {l : List Int} {n : Int} {a : Int} (h0 : 0 ≤ n) (he : l[n.toNat]? = some a) : iaD 1 (.sl (i64s l)) (.int .i64 n) = some (.pe [.int .i64 a] 0) := iaD_map (f := fun n => [.int .i64 n]) h0 he rfl
structure Ln where
  acc : Int
  cus : Int
  con : Int
  amt : Int
  deriving DecidableEq, Inhabited
def Ln.cs (x : Ln) : List D := [.int .i64 x.acc, .int .u64 x.cus, .int .u64 x.con, .int .i64 x.amt]
def Ln.d (x : Ln) : D := .agg x.cs
structure Ln.R (x : Ln) : Prop where
  acc : I64 x.acc
  cus : U64 x.cus
  con : U64 x.con
  amt : I64 x.amt
def Ln.may (x : Ln) : Prop := 1 ≤ x.acc ∧ x.acc ≤ 9999 ∧ x.amt ≠ 0 ∧ -4611686018427387904 ≤ x.amt ∧ x.amt ≤ 4611686018427387904
instance (x : Ln) : Decidable x.may := by unfold Ln.may; infer_instance
def lns (l : List Ln) : List (List D) := l.map Ln.cs
theorem lns_len (l : List Ln) : (lns l).length = l.length := List.length_map ..
theorem iaD_lns {l : List Ln} {k : IntKind} {n : Int} {x : Ln} (h0 : 0 ≤ n) (he : l[n.toNat]? = some x) : iaD 4 (.sl (lns l)) (.int k n) = some (.pe x.cs 0) := iaD_map (f := Ln.cs) h0 he rfl
theorem scLL_lns (n m : Nat) : ∀ l : List Ln, scLL n m (lns l) = true
  | [] => rfl
  | x :: l => by
    have h := scLL_lns n m l
    unfold lns at h ⊢
    simp only [List.map_cons, scLL, h, Bool.and_true]; rfl

abbrev Ti := Int × Int × Int
def Ln.t (x : Ln) : Ti := (x.acc, x.cus, x.con)
def Ti.lt (a b : Ti) : Prop := a.1 < b.1 ∨ a.1 = b.1 ∧ (a.2.1 < b.2.1 ∨ a.2.1 = b.2.1 ∧ a.2.2 < b.2.2)
instance (a b : Ti) : Decidable (a.lt b) := by unfold Ti.lt; infer_instance
def Ln.lt (x y : Ln) : Prop := x.t.lt y.t
instance (a b : Ln) : Decidable (a.lt b) := by unfold Ln.lt; infer_instance
theorem Ti.lt_irrefl (a : Ti) : ¬ a.lt a := by unfold Ti.lt; omega
theorem Ti.lt_trans {a b c : Ti} (h : a.lt b) (k : b.lt c) : a.lt c := by unfold Ti.lt at *; omega
theorem Ti.tri (a b : Ti) : a.lt b ∨ a = b ∨ b.lt a := by
  obtain ⟨a1, a2, a3⟩ := a
  obtain ⟨b1, b2, b3⟩ := b
  simp only [Ti.lt, Prod.mk.injEq]; omega
def amtsT (l : List Ln) (t : Ti) : List Int := (l.filter fun y => decide (y.t = t)).map Ln.amt
def sumT (l : List Ln) (t : Ti) : Int := (amtsT l t).sum
theorem amtsT_app (a b : List Ln) (t : Ti) : amtsT (a ++ b) t = amtsT a t ++ amtsT b t := by simp [amtsT]
theorem sumT_app (a b : List Ln) (t : Ti) : sumT (a ++ b) t = sumT a t + sumT b t := by simp [sumT, amtsT_app]
theorem sumT_nil (t : Ti) : sumT [] t = 0 := rfl
theorem sumT_cons (x : Ln) (l : List Ln) (t : Ti) : sumT (x :: l) t = (if x.t = t then x.amt else 0) + sumT l t := by
  by_cases h : x.t = t <;> simp [sumT, amtsT, h]
theorem amtsT_R {l : List Ln} (h : ∀ x ∈ l, x.R) (t : Ti) : ∀ n ∈ amtsT l t, I64 n := by
  intro n hn
  simp only [amtsT, List.mem_map, List.mem_filter] at hn
  obtain ⟨x, ⟨hx, -⟩, rfl⟩ := hn
  exact (h x hx).amt
theorem amtsT_len (l : List Ln) (t : Ti) : (amtsT l t).length ≤ l.length := by
  simp only [amtsT, List.length_map]; exact List.length_filter_le ..
theorem amtsT_none {l : List Ln} {t : Ti} (h : t ∉ l.map Ln.t) : amtsT l t = [] := by
  simp only [amtsT, List.map_eq_nil_iff, List.filter_eq_nil_iff, decide_eq_true_eq]
  intro x hx hxt
  exact h (hxt ▸ List.mem_map_of_mem hx)

def big (n : Int) : Prop := ¬ (-4611686018427387904 ≤ n ∧ n ≤ 4611686018427387904)
instance (n : Int) : Decidable (big n) := by unfold big; infer_instance
def BadL (l : List Ln) : Prop := ∃ x ∈ l, ¬ x.may ∨ big (sumT l x.t)
instance (l : List Ln) : Decidable (BadL l) := by unfold BadL; infer_instance
structure Tid (l out : List Ln) : Prop where
  st : out.Pairwise Ln.lt
  mem : ∀ x, x ∈ out ↔ x.amt ≠ 0 ∧ x.amt = sumT l x.t ∧ x.t ∈ l.map Ln.t

theorem st_ext : ∀ {a b : List Ln}, a.Pairwise Ln.lt → b.Pairwise Ln.lt → (∀ x, x ∈ a ↔ x ∈ b) → a = b
  | [], [], _, _, _ => rfl
  | [], y :: b, _, _, h => by simpa using (h y).2 (List.mem_cons_self ..)
  | x :: a, [], _, _, h => by simpa using (h x).1 (List.mem_cons_self ..)
  | x :: a, y :: b, ha, hb, h => by
    have ha' := List.pairwise_cons.1 ha
    have hb' := List.pairwise_cons.1 hb
    have e : x = y := by
      rcases List.mem_cons.1 ((h x).1 (List.mem_cons_self ..)) with h1 | h1
      · exact h1
      · rcases List.mem_cons.1 ((h y).2 (List.mem_cons_self ..)) with h2 | h2
        · exact h2.symm
        · exact absurd (Ti.lt_trans (hb'.1 x h1) (ha'.1 y h2)) (Ti.lt_irrefl _)
    subst e
    rw [st_ext ha'.2 hb'.2 fun z => ?_]
    constructor
    · intro hz
      rcases List.mem_cons.1 ((h z).1 (List.mem_cons_of_mem _ hz)) with rfl | h'
      · exact absurd (ha'.1 z hz) (Ti.lt_irrefl _)
      · exact h'
    · intro hz
      rcases List.mem_cons.1 ((h z).2 (List.mem_cons_of_mem _ hz)) with rfl | h'
      · exact absurd (hb'.1 z hz) (Ti.lt_irrefl _)
      · exact h'
theorem Tid.uniq {l a b : List Ln} (h : Tid l a) (k : Tid l b) : a = b := st_ext h.st k.st fun x => (h.mem x).trans (k.mem x).symm
theorem Tid.may {l out : List Ln} (h : Tid l out) (hb : ¬ BadL l) : ∀ x ∈ out, x.may := by
  intro x hx
  obtain ⟨h1, h2, h3⟩ := (h.mem x).1 hx
  obtain ⟨y, hy, hyt⟩ := List.mem_map.1 h3
  have hm : y.may := Classical.byContradiction fun hn => hb ⟨y, hy, .inl hn⟩
  have hs : ¬ big (sumT l y.t) := fun hn => hb ⟨y, hy, .inr hn⟩
  rw [hyt, ← h2] at hs
  have : y.acc = x.acc := congrArg (·.1) hyt
  unfold big at hs
  unfold Ln.may at *
  omega
theorem nodup_st {l : List Ln} (h : l.Pairwise Ln.lt) : l.Nodup := by
  refine List.Pairwise.imp ?_ h
  intro a b hab he
  subst he
  exact Ti.lt_irrefl a.t hab
theorem sumT_own {l : List Ln} (hn : (l.map Ln.t).Nodup) {x : Ln} (hx : x ∈ l) : sumT l x.t = x.amt := by
  induction l with
  | nil => cases hx
  | cons y l ih =>
    simp only [List.map_cons, List.nodup_cons] at hn
    rw [sumT_cons]
    rcases List.mem_cons.1 hx with rfl | hx
    · rw [if_pos rfl, sumT, amtsT_none hn.1]; simp
    · rw [if_neg (fun e : y.t = x.t => hn.1 (e ▸ List.mem_map_of_mem hx)), ih hn.2 hx]; simp
theorem Tid.of_st {l out : List Ln} (hn : (l.map Ln.t).Nodup) (h0 : ∀ x ∈ l, x.amt ≠ 0) (hs : out.Pairwise Ln.lt) (hm : ∀ x, x ∈ out ↔ x ∈ l) : Tid l out := by
  refine ⟨hs, fun x => (hm x).trans ⟨fun hx => ⟨h0 x hx, (sumT_own hn hx).symm, List.mem_map_of_mem hx⟩, fun ⟨h1, h2, h3⟩ => ?_⟩⟩
  obtain ⟨y, hy, hyt⟩ := List.mem_map.1 h3
  have : y.amt = x.amt := by rw [h2, ← hyt, sumT_own hn hy]
  have e : y = x := by
    cases x; cases y
    simp only [Ln.t, Prod.mk.injEq, Ln.mk.injEq] at *
    exact ⟨hyt.1, hyt.2.1, hyt.2.2, this⟩
  exact e ▸ hy
theorem c33 : cFun E0.P 33 = some ⟨46, [(2, none), (3, none)], .seq (.rg [⟨some 2, none, .mv (.k (.int .i64 0))⟩, ⟨some 3, none, .mv (.k (.bool false))⟩]) (.seq (.rg [⟨some 10, none, .build [.int .u64 0, .int .u64 0] []⟩, ⟨some 4, none, .alloc [.int .u64 0, .int .u64 0] 103⟩, ⟨none, none, .st 2 (.t 4) (.t 10)⟩]) (.seq (.seq (.rg [⟨some 11, none, .mv (.t 0)⟩, ⟨some 12, none, .len 1 (.t 11)⟩, ⟨some 13, none, .mv (.k (.int .i64 0))⟩]) (.block 0 (.loop (.seq (.rg [⟨some 14, none, .bin .lss .leaf (.t 13) (.t 12)⟩]) (.seq (.cond (.t 14) .skip (.exit 0)) (.seq (.block 1 (.seq (.rg [⟨some 15, none, .ia 1 (.t 11) (.t 13)⟩, ⟨some 16, none, .ld 1 false (.t 15)⟩, ⟨some 6, none, .mv (.t 16)⟩]) (.seq (.rg [⟨some 18, none, .fa 1 (.t 4)⟩, ⟨some 19, none, .ld 1 false (.t 18)⟩, ⟨some 20, none, .mv (.t 6)⟩, ⟨some 21, none, .conv .u64 (.t 20)⟩, ⟨some 22, none, .extn 42 [.t 19, .t 21, .k (.int .u64 0)]⟩, ⟨some 17, none, .mv (.t 22)⟩, ⟨some 23, none, .ext 0 (.t 17)⟩, ⟨some 24, none, .ext 1 (.t 17)⟩, ⟨some 7, none, .mv (.t 23)⟩, ⟨some 8, none, .mv (.t 24)⟩]) (.rg [⟨some 25, none, .fa 0 (.t 4)⟩, ⟨some 26, none, .ld 1 false (.t 25)⟩, ⟨some 27, none, .mv (.t 6)⟩, ⟨some 28, none, .bin .shr .leaf (.t 27) (.k (.int .u64 63))⟩, ⟨some 29, none, .conv .u64 (.t 28)⟩, ⟨some 30, none, .bin .add .leaf (.t 26) (.t 29)⟩, ⟨some 31, none, .mv (.t 8)⟩, ⟨some 32, none, .bin .add .leaf (.t 30) (.t 31)⟩, ⟨some 33, none, .mv (.t 7)⟩, ⟨some 34, none, .build [.int .u64 0, .int .u64 0] [(0, 1, .t 32), (1, 1, .t 33)]⟩, ⟨none, none, .st 2 (.t 4) (.t 34)⟩])))) (.rg [⟨some 35, none, .bin .add .leaf (.t 13) (.k (.int .i64 1))⟩, ⟨some 13, none, .mv (.t 35)⟩]))))))) (.seq (.seq (.rg [⟨some 36, none, .fa 1 (.t 4)⟩, ⟨some 37, none, .ld 1 false (.t 36)⟩, ⟨some 38, none, .conv .i64 (.t 37)⟩, ⟨some 9, none, .mv (.t 38)⟩]) (.seq (.rg [⟨some 39, none, .mv (.t 9)⟩, ⟨some 40, none, .bin .shr .leaf (.t 39) (.k (.int .u64 63))⟩, ⟨some 41, none, .conv .u64 (.t 40)⟩, ⟨some 42, none, .fa 0 (.t 4)⟩, ⟨some 43, none, .ld 1 false (.t 42)⟩, ⟨some 44, none, .bin .eql .leaf (.t 41) (.t 43)⟩]) (.cond (.t 44) (.seq (.rg [⟨some 45, none, .mv (.t 9)⟩, ⟨some 2, none, .mv (.t 45)⟩, ⟨some 3, none, .mv (.k (.bool true))⟩]) .ret) .skip))) (.seq (.rg [⟨some 2, none, .mv (.k (.int .i64 0))⟩, ⟨some 3, none, .mv (.k (.bool false))⟩]) .ret))))⟩ := by kernel_rfl

theorem add64 {a b c : Int} (ha : U64 a) (hb : U64 b) (hc : 0 ≤ c ∧ c ≤ 1) : AExt E0 42 [.int .u64 a, .int .u64 b, .int .u64 c] (.tup [.int .u64 ((a + b + c) % 18446744073709551616), .int .u64 ((a + b + c) / 18446744073709551616)]) :=
  AExt.add64 (fn := E0.P.funcs[42]!) (by kernel_rfl) (by kernel_rfl) (by kernel_rfl) (by kernel_rfl) (by kernel_rfl) ha hb hc
abbrev sumS (l : List Int) : D := if -9223372036854775808 ≤ l.sum ∧ l.sum < 9223372036854775808 then .tup [.int .i64 l.sum, .bool true] else .tup [.int .i64 0, .bool false]
theorem sum_bd : ∀ (l : List Int), (∀ n ∈ l, I64 n) → -(9223372036854775808 * (l.length : Int)) ≤ l.sum ∧ l.sum ≤ 9223372036854775808 * (l.length : Int)
  | [], _ => by simp
  | a :: r, h => by
    have h1 := h a (by simp)
    have h2 := sum_bd r fun n hn => h n (by simp [hn])
    unfold I64 at h1
    simp only [List.sum_cons, List.length_cons]
    omega
theorem Sum (l : List Int) (hl : l.length < 4611686018427387904) (hr : ∀ n ∈ l, I64 n) : Pure 33 [.sl (i64s l)] (sumS l) := by
  intro S tk
  refine ACalls.withSc fun hsc => ?_
  refine ACalls.fgo c33 rfl fun hS => ?_
  have hsc' : scLL S.length tk.length (i64s l) = true := by simp only [scL, D.sc, Bool.and_true] at hsc; exact hsc
  refine floop (α := Nat) rfl rfl hS (fun i => i ≤ l.length) (fun i => l.length - i) (fun i => [(4, .lp 0 0), (13, .d (.int .i64 i)), (11, .d (.sl (i64s l))), (12, .d (.int .i64 (i64s l).length))]) (fun i => [.arr [.int .u64 ((l.take i).sum / 18446744073709551616 % 18446744073709551616), .int .u64 ((l.take i).sum % 18446744073709551616)]]) (fun _ => []) 0 (by omega) (fstep_sub ⟨Sub.refl _, Sub.refl _, Sub.refl _, Sub.refl _, trivial⟩) ?_
  rintro i hi
  refine bs_i (fun h => ?_) (fun h => ?_)
  · rw [i64s_len] at h
    simp only [decide_eq_true_eq] at h
    have hi2 : i < l.length := by omega
    refine pK_i (iaD_i64s (a := l[i]) (by omega) (by simp)) ?_
    refine xk (add64 ?_ ?_ (by omega)) ?_
    · unfold U64; omega
    · exact wu64_range _
    refine fnext (i + 1) hi2 (by omega) (fstep_J ?_ ⟨Sub.refl _, Sub.int (by rw [wi64]; omega), Sub.refl _, Sub.refl _, trivial⟩)
    have hx := hr l[i] (by simp)
    rw [take_sum hi2]
    simp only [List.cons.injEq, O.arr.injEq, D.int.injEq, true_and, and_true, shr63]
    generalize (l.take i).sum = s
    generalize l[i] = x at hx
    simp only [wu64]
    exact ⟨two_step hx, by omega⟩
  · rw [i64s_len] at h
    simp only [decide_eq_false_iff_not] at h
    have hi2 : i = l.length := by omega
    have hbd := sum_bd l hr
    subst hi2
    refine bs_i (fun q => ?_) (fun q => ?_)
    · refine ffin _ rfl rfl hS (Sub.refl _) rfl ⟨?_, rfl, rfl⟩
      simp only [List.take_length, shr63, wu64, wi64, decide_eq_true_eq] at q
      rw [two_words (by omega) (by omega)] at q
      simp only [List.take_length, tupD, sumS, wi64]
      unfold I64 at q
      rw [if_pos q]
      simp only [D.tup.injEq, List.cons.injEq, D.int.injEq, true_and, and_true]
      omega
    · refine ffin _ rfl rfl hS (Sub.refl _) rfl ⟨?_, rfl, rfl⟩
      simp only [List.take_length, shr63, wu64, wi64, decide_eq_false_iff_not] at q
      rw [two_words (by omega) (by omega)] at q
      simp only [tupD, sumS]
      unfold I64 at q
      rw [if_neg q]
def lows : List Int → Int
  | [] => 0
  | a :: r => a % 4294967296 + lows r
def highs : List Int → Int
  | [] => 0
  | a :: r => a / 4294967296 + highs r
theorem halves : ∀ l, highs l * 4294967296 + lows l = l.sum
  | [] => rfl
  | a :: r => by
    have := halves r
    simp only [highs, lows, List.sum_cons]
    omega
theorem lows_app (a b : List Int) : lows (a ++ b) = lows a + lows b := by
  induction a with
  | nil => simp [lows]
  | cons x r ih => simp only [List.cons_append, lows, ih]; omega
theorem highs_app (a b : List Int) : highs (a ++ b) = highs a + highs b := by
  induction a with
  | nil => simp [highs]
  | cons x r ih => simp only [List.cons_append, highs, ih]; omega
theorem lows_take {l : List Int} {i : Nat} (h : i < l.length) : lows (l.take (i + 1)) = lows (l.take i) + l[i] % 4294967296 := by
  rw [List.take_add_one, List.getElem?_eq_getElem h, Option.toList_some, lows_app]
  simp [lows]
theorem highs_take {l : List Int} {i : Nat} (h : i < l.length) : highs (l.take (i + 1)) = highs (l.take i) + l[i] / 4294967296 := by
  rw [List.take_add_one, List.getElem?_eq_getElem h, Option.toList_some, highs_app]
  simp [highs]
theorem lows_bd : ∀ l : List Int, 0 ≤ lows l ∧ lows l ≤ 4294967295 * (l.length : Int)
  | [] => by simp [lows]
  | a :: r => by
    have := lows_bd r
    simp only [lows, List.length_cons]
    omega
theorem highs_bd : ∀ l : List Int, (∀ n ∈ l, I64 n) → -(2147483648 * (l.length : Int)) ≤ highs l ∧ highs l ≤ 2147483648 * (l.length : Int)
  | [], _ => by simp [highs]
  | a :: r, h => by
    have := highs_bd r fun n hn => h n (by simp [hn])
    have h1 := h a (by simp)
    unfold I64 at h1
    simp only [highs, List.length_cons]
    omega
theorem shl32m (a : Int) : IntKind.wrap .i64 (a * 2 ^ (min (Int.toNat 32) (IntKind.bits .i64))) = IntKind.wrap .i64 (a * 4294967296) := by rw [shl32]
open Go Go.KL Go.RowKit Go.Proofs Go.Sort
theorem c59 : cFun E0.P 59 = some ⟨25, [(2, none)], .seq (.rg [⟨some 2, none, .mv (.k (.int .i64 0))⟩]) (.seq (.seq (.rg [⟨some 3, none, .mv (.t 0)⟩, ⟨some 4, none, .bin .geq .leaf (.t 3) (.k (.int .u64 4294967296))⟩]) (.cond (.t 4) (.seq (.rg [⟨some 5, none, .mv (.t 0)⟩, ⟨some 6, none, .bin .shr .leaf (.t 5) (.k (.int .u64 32))⟩, ⟨some 0, none, .mv (.t 6)⟩]) (.rg [⟨some 2, none, .mv (.k (.int .i64 32))⟩])) .skip)) (.seq (.seq (.rg [⟨some 7, none, .mv (.t 0)⟩, ⟨some 8, none, .bin .geq .leaf (.t 7) (.k (.int .u64 65536))⟩]) (.cond (.t 8) (.seq (.rg [⟨some 9, none, .mv (.t 0)⟩, ⟨some 10, none, .bin .shr .leaf (.t 9) (.k (.int .u64 16))⟩, ⟨some 0, none, .mv (.t 10)⟩]) (.rg [⟨some 11, none, .mv (.t 2)⟩, ⟨some 12, none, .bin .add .leaf (.t 11) (.k (.int .i64 16))⟩, ⟨some 2, none, .mv (.t 12)⟩])) .skip)) (.seq (.seq (.rg [⟨some 13, none, .mv (.t 0)⟩, ⟨some 14, none, .bin .geq .leaf (.t 13) (.k (.int .u64 256))⟩]) (.cond (.t 14) (.seq (.rg [⟨some 15, none, .mv (.t 0)⟩, ⟨some 16, none, .bin .shr .leaf (.t 15) (.k (.int .u64 8))⟩, ⟨some 0, none, .mv (.t 16)⟩]) (.rg [⟨some 17, none, .mv (.t 2)⟩, ⟨some 18, none, .bin .add .leaf (.t 17) (.k (.int .i64 8))⟩, ⟨some 2, none, .mv (.t 18)⟩])) .skip)) (.seq (.rg [⟨some 19, none, .mv (.t 2)⟩, ⟨some 20, none, .mv (.t 0)⟩, ⟨some 21, none, .conv .u8 (.t 20)⟩, ⟨some 22, none, .ixS (.k (.str ⟨#[0, 1, 2, 2, 3, 3, 3, 3, 4, 4, 4, 4, 4, 4, 4, 4, 5, 5, 5, 5, 5, 5, 5, 5, 5, 5, 5, 5, 5, 5, 5, 5, 6, 6, 6, 6, 6, 6, 6, 6, 6, 6, 6, 6, 6, 6, 6, 6, 6, 6, 6, 6, 6, 6, 6, 6, 6, 6, 6, 6, 6, 6, 6, 6, 7, 7, 7, 7, 7, 7, 7, 7, 7, 7, 7, 7, 7, 7, 7, 7, 7, 7, 7, 7, 7, 7, 7, 7, 7, 7, 7, 7, 7, 7, 7, 7, 7, 7, 7, 7, 7, 7, 7, 7, 7, 7, 7, 7, 7, 7, 7, 7, 7, 7, 7, 7, 7, 7, 7, 7, 7, 7, 7, 7, 7, 7, 7, 7, 8, 8, 8, 8, 8, 8, 8, 8, 8, 8, 8, 8, 8, 8, 8, 8, 8, 8, 8, 8, 8, 8, 8, 8, 8, 8, 8, 8, 8, 8, 8, 8, 8, 8, 8, 8, 8, 8, 8, 8, 8, 8, 8, 8, 8, 8, 8, 8, 8, 8, 8, 8, 8, 8, 8, 8, 8, 8, 8, 8, 8, 8, 8, 8, 8, 8, 8, 8, 8, 8, 8, 8, 8, 8, 8, 8, 8, 8, 8, 8, 8, 8, 8, 8, 8, 8, 8, 8, 8, 8, 8, 8, 8, 8, 8, 8, 8, 8, 8, 8, 8, 8, 8, 8, 8, 8, 8, 8, 8, 8, 8, 8, 8, 8, 8, 8, 8, 8, 8, 8, 8, 8, 8, 8, 8, 8, 8, 8]⟩)) (.t 21)⟩, ⟨some 23, none, .conv .i64 (.t 22)⟩, ⟨some 24, none, .bin .add .leaf (.t 19) (.t 23)⟩, ⟨some 2, none, .mv (.t 24)⟩]) .ret))))⟩ := by kernel_rfl
theorem c44 : cFun E0.P 44 = some ⟨8, [(2, none)], .seq (.rg [⟨some 2, none, .mv (.k (.int .i64 0))⟩]) (.seq (.cond (.k (.bool false)) (.seq (.rg [⟨some 3, none, .mv (.t 0)⟩, ⟨some 4, none, .conv .u32 (.t 3)⟩, ⟨some 5, none, .call 58 [.t 4]⟩, ⟨some 2, none, .mv (.t 5)⟩]) .ret) .skip) (.seq (.rg [⟨some 6, none, .mv (.t 0)⟩, ⟨some 7, none, .call 59 [.t 6]⟩, ⟨some 2, none, .mv (.t 7)⟩]) .ret))⟩ := by kernel_rfl
theorem c71 : cFun E0.P 71 = some ⟨7, [(2, none)], .seq (.rg [⟨some 2, none, .mv (.k (.int .u64 0))⟩]) (.seq (.rg [⟨some 3, none, .mv (.t 0)⟩, ⟨some 4, none, .conv .u64 (.t 3)⟩, ⟨some 5, none, .call 44 [.t 4]⟩, ⟨some 6, none, .bin .shl .leaf (.k (.int .u64 1)) (.t 5)⟩, ⟨some 2, none, .mv (.t 6)⟩]) .ret)⟩ := by kernel_rfl
theorem c72 : cFun E0.P 72 = some ⟨33, [(2, none)], .seq (.rg [⟨some 2, none, .mv (.k (.int .u64 0))⟩]) (.seq (.rd [(⟨some 3, none, .mv (.t 0)⟩, none), (⟨some 4, none, .nilck (.t 3)⟩, none), (⟨some 5, none, .ld 1 false (.t 4)⟩, none), (⟨some 6, none, .mv (.t 0)⟩, none), (⟨some 7, none, .nilck (.t 6)⟩, none), (⟨some 8, none, .ld 1 false (.t 7)⟩, none), (⟨some 9, none, .bin .shl .leaf (.t 8) (.k (.int .u64 13))⟩, none), (⟨some 10, none, .bin .xor .leaf (.t 5) (.t 9)⟩, none), (⟨some 11, none, .nilck (.t 3)⟩, none), (⟨none, none, .st 1 (.t 11) (.t 10)⟩, some [])]) (.seq (.rd [(⟨some 12, none, .mv (.t 0)⟩, none), (⟨some 13, none, .nilck (.t 12)⟩, none), (⟨some 14, none, .ld 1 false (.t 13)⟩, none), (⟨some 15, none, .mv (.t 0)⟩, none), (⟨some 16, none, .nilck (.t 15)⟩, none), (⟨some 17, none, .ld 1 false (.t 16)⟩, none), (⟨some 18, none, .bin .shr .leaf (.t 17) (.k (.int .u64 7))⟩, none), (⟨some 19, none, .bin .xor .leaf (.t 14) (.t 18)⟩, none), (⟨some 20, none, .nilck (.t 12)⟩, none), (⟨none, none, .st 1 (.t 20) (.t 19)⟩, some [])]) (.seq (.rd [(⟨some 21, none, .mv (.t 0)⟩, none), (⟨some 22, none, .nilck (.t 21)⟩, none), (⟨some 23, none, .ld 1 false (.t 22)⟩, none), (⟨some 24, none, .mv (.t 0)⟩, none), (⟨some 25, none, .nilck (.t 24)⟩, none), (⟨some 26, none, .ld 1 false (.t 25)⟩, none), (⟨some 27, none, .bin .shl .leaf (.t 26) (.k (.int .u64 17))⟩, none), (⟨some 28, none, .bin .xor .leaf (.t 23) (.t 27)⟩, none), (⟨some 29, none, .nilck (.t 21)⟩, none), (⟨none, none, .st 1 (.t 29) (.t 28)⟩, some [])]) (.seq (.rg [⟨some 30, none, .mv (.t 0)⟩, ⟨some 31, none, .nilck (.t 30)⟩, ⟨some 32, none, .ld 1 false (.t 31)⟩, ⟨some 2, none, .mv (.t 32)⟩]) .ret))))⟩ := by kernel_rfl

theorem ixL {y : Int} (h0 : 0 ≤ y) (h : y ≤ 255) : ixSD (.str Lib.len8tab) (.int .u8 (IntKind.u8.wrap y)) = some (.int .u8 (Lib.bitLen y.toNat : Nat)) := by
  have hs : Lib.len8tab.size = 256 := by decide
  have hw : IntKind.u8.wrap y = y := by rw [IntKind.wrap_u8]; omega
  rw [← Lib.len8_of y h0 h, hw]
  simp only [ixSD, if_pos h0, getElem?_pos Lib.len8tab y.toNat (by omega), Lib.len8, Option.getD]
theorem bitLen_eq (x : Nat) (h : x < 2 ^ 64) : Lib.bitLen x = bitsLen x := by
  induction x using Nat.strongRecOn with
  | _ x ih =>
    by_cases h0 : x = 0
    · subst h0; rfl
    · rw [Lib.bitLen_half x h0 h, ih (x / 2) (by omega) (by omega)]
      unfold bitsLen
      rw [if_neg h0, Nat.log2_def x]
      by_cases h2 : 2 ≤ x
      · rw [if_pos h2, if_neg (by omega)]; omega
      · obtain rfl : x = 1 := by omega
        simp
theorem sh32 (x : Int) : x.fdiv (2 ^ min (Int.toNat 32) IntKind.u64.bits) = x / 4294967296 := Int.fdiv_eq_ediv_of_nonneg _ (by decide)
theorem sh16 (x : Int) : x.fdiv (2 ^ min (Int.toNat 16) IntKind.u64.bits) = x / 65536 := Int.fdiv_eq_ediv_of_nonneg _ (by decide)
theorem sh8 (x : Int) : x.fdiv (2 ^ min (Int.toNat 8) IntKind.u64.bits) = x / 256 := Int.fdiv_eq_ediv_of_nonneg _ (by decide)

set_option maxHeartbeats 2000000 in
theorem len64 (x : Nat) (hx : x < 4611686018427387904) : Pure 59 [.int .u64 x] (.int .i64 (Lib.bitLen x : Nat)) := by
  intro S tk
  refine ACalls.fgo c59 rfl fun hS => ?_
  repeat' first | with_reducible refine fzD_ite (fun q => ?_) (fun q => ?_) | ((try conv => whnf); first | refine bs_d (fun q => ?_) (fun q => ?_) <;> (try simp (disch := ((try unfold I64); omega)) only [wi64_id, td] at q) | refine bs_n ?_ | refine bs_i (fun q => ?_) (fun q => ?_) | refine pK_i (ixL (by (try simp only [sh32, sh16, sh8] at *); omega) (by (try simp only [sh32, sh16, sh8] at *); omega)) ?_ | refine eqk rfl ?_ | refine ffin _ rfl rfl hS (Sub.refl _) rfl ⟨?_, rfl, rfl⟩)
  all_goals simp only [tupD, sh32, sh16, sh8] at *
  all_goals first
    | (have e : ((x:Int) / 4294967296 / 65536 / 256).toNat = x / 72057594037927936 := by omega
       have l := Lib.bitLen_le8' ((x:Int) / 4294967296 / 65536 / 256) (by omega) (by omega)
       have s := Lib.bitLen_shift56 x (by omega) (by omega)
       rw [e] at l ⊢
       refine congrArg (D.int .i64) ?_
       simp (disch := (unfold I64; omega)) only [wi64_id]
       omega)
    | (have e : ((x:Int) / 4294967296 / 65536).toNat = x / 281474976710656 := by omega
       have l := Lib.bitLen_le8' ((x:Int) / 4294967296 / 65536) (by omega) (by omega)
       have s := Lib.bitLen_shift48 x (by omega) (by omega)
       rw [e] at l ⊢
       refine congrArg (D.int .i64) ?_
       simp (disch := (unfold I64; omega)) only [wi64_id]
       omega)
    | (have e : ((x:Int) / 4294967296 / 256).toNat = x / 1099511627776 := by omega
       have l := Lib.bitLen_le8' ((x:Int) / 4294967296 / 256) (by omega) (by omega)
       have s := Lib.bitLen_shift40 x (by omega) (by omega)
       rw [e] at l ⊢
       refine congrArg (D.int .i64) ?_
       simp (disch := (unfold I64; omega)) only [wi64_id]
       omega)
    | (have e : ((x:Int) / 4294967296).toNat = x / 4294967296 := by omega
       have l := Lib.bitLen_le8' ((x:Int) / 4294967296) (by omega) (by omega)
       have s := Lib.bitLen_shift32 x (by omega) (by omega)
       rw [e] at l ⊢
       refine congrArg (D.int .i64) ?_
       simp (disch := (unfold I64; omega)) only [wi64_id]
       omega)
    | (have e : ((x:Int) / 65536 / 256).toNat = x / 16777216 := by omega
       have l := Lib.bitLen_le8' ((x:Int) / 65536 / 256) (by omega) (by omega)
       have s := Lib.bitLen_shift24 x (by omega) (by omega)
       rw [e] at l ⊢
       refine congrArg (D.int .i64) ?_
       simp (disch := (unfold I64; omega)) only [wi64_id]
       omega)
    | (have e : ((x:Int) / 65536).toNat = x / 65536 := by omega
       have l := Lib.bitLen_le8' ((x:Int) / 65536) (by omega) (by omega)
       have s := Lib.bitLen_shift16 x (by omega) (by omega)
       rw [e] at l ⊢
       refine congrArg (D.int .i64) ?_
       simp (disch := (unfold I64; omega)) only [wi64_id]
       omega)
    | (have e : ((x:Int) / 256).toNat = x / 256 := by omega
       have l := Lib.bitLen_le8' ((x:Int) / 256) (by omega) (by omega)
       have s := Lib.bitLen_shift8 x (by omega) (by omega)
       rw [e] at l ⊢
       refine congrArg (D.int .i64) ?_
       simp (disch := (unfold I64; omega)) only [wi64_id]
       omega)
    | (have l := Lib.bitLen_le8' (x:Int) (by omega) (by omega)
       refine congrArg (D.int .i64) ?_
       rw [Int.toNat_natCast] at l ⊢
       simp (disch := (unfold I64; omega)) only [wi64_id]
       omega)
theorem len (x : Nat) (hx : x < 4611686018427387904) : Pure 44 [.int .u64 x] (.int .i64 (bitsLen x : Nat)) := by
  intro S tk
  rw [← bitLen_eq x (by omega)]
  refine ACalls.fgo c44 rfl fun hS => ?_
  repeat' first | with_reducible refine fzD_ite (fun q => ?_) (fun q => ?_) | ((try conv => whnf); first | refine bs_d (fun q => ?_) (fun q => ?_) <;> (try simp (disch := ((try unfold I64); omega)) only [wi64_id, td] at q) | refine bs_n ?_ | refine bs_i (fun q => ?_) (fun q => ?_) | refine ckz (len64 _ (by omega)) ?_ | refine cq (len64 _ (by omega)) ?_ | refine eqk rfl ?_ | refine ffin _ rfl rfl hS (Sub.refl _) rfl ⟨?_, rfl, rfl⟩)
  all_goals rfl
theorem shlD {k k' : IntKind} {q : EqK} {a b : Int} (h : 0 ≤ b) : binD .shl q (.int k a) (.int k' b) = some (.int k (k.wrap (a * 2 ^ (min b.toNat k.bits)))) := by
  simp [binD, Int.not_lt.2 h]
theorem nextPow (x : Nat) (hx : x < 4611686018427387904) : Pure 71 [.int .i64 x] (.int .u64 ((2 ^ bitsLen x : Nat) : Int)) := by
  intro S tk
  have hk : bitsLen x ≤ 62 := (bitsLen_le_iff x 62).2 (by omega)
  refine ACalls.fgo c71 rfl fun hS => ?_
  repeat' first | with_reducible refine fzD_ite (fun q => ?_) (fun q => ?_) | ((try conv => whnf); first | refine bs_d (fun q => ?_) (fun q => ?_) <;> (try simp (disch := ((try unfold I64); omega)) only [wi64_id, td] at q) | refine bs_n ?_ | refine bs_i (fun q => ?_) (fun q => ?_) | refine ckS (by first | rfl | simp) rfl (len x hx) (.cons (Sub.int (by rw [wu64_id]; unfold U64; omega)) .nil) ?_ | refine pK_i (shlD (by omega)) ?_ | refine eqk rfl ?_ | refine ffin _ rfl rfl hS (Sub.refl _) rfl ⟨?_, rfl, rfl⟩)
  refine congrArg (D.int .u64) ?_
  rw [Int.toNat_natCast, show min (bitsLen x) IntKind.u64.bits = bitsLen x from by rw [show IntKind.u64.bits = 64 from rfl]; omega, Int.one_mul, wu64_id]
  · exact (Int.natCast_pow 2 _).symm
  · have : (2 : Nat) ^ bitsLen x ≤ 2 ^ 62 := Nat.pow_le_pow_right (by omega) hk
    have e : ((2 : Int) ^ bitsLen x) = ((2 ^ bitsLen x : Nat) : Int) := (Int.natCast_pow 2 _).symm
    obtain ⟨c, hc⟩ : ∃ c : Nat, c = 2 ^ bitsLen x := ⟨_, rfl⟩
    rw [e, ← hc]; rw [← hc] at this; unfold U64; omega
theorem at_set {S : List O} {pid : Nat} {o o' : O} (h : S[pid]? = some o) : (S.set pid o')[pid]? = some o' := by
  rw [List.getElem?_set_self (List.getElem?_eq_some_iff.1 h).1]
theorem next (x : Int) (S : List O) (tk : Tks) (pid : Nat) (hp : S[pid]? = some (.arr [.int .u64 x])) :
    ACalls E0 72 [.po pid 0] S tk (fun r S' tk' => ∃ o', (∃ y : Int, 0 ≤ y ∧ y < 18446744073709551616 ∧ r = .int .u64 y ∧ o' = .arr [.int .u64 y]) ∧ S' = S.set pid o' ∧ tk' = tk) := by
  have hlt : pid < S.length := (List.getElem?_eq_some_iff.1 hp).1
  have he : S = S.set pid (.arr [.int .u64 x]) := by
    obtain ⟨h1, h2⟩ := List.getElem?_eq_some_iff.1 hp
    rw [← h2, List.set_getElem_self]
  have ha : ∀ y : Int, (S.set pid (.arr [.int .u64 y]))[pid]? = some (.arr [.int .u64 y]) := fun y => at_set hp
  refine ACalls.fgoC c72 rfl [1, 2, 3] rfl fun hS => ?_
  have hgS : ∀ y : Int, (S.set pid (.arr [.int .u64 y])).length = S.length ∧ OSc S.length (List.length tk) (S.set pid (.arr [.int .u64 y])) := fun y => ⟨by simp, hS.set (oSc_osc rfl)⟩
  repeat' first | with_reducible refine fzD_ite (fun q => ?_) (fun q => ?_) | ((try conv => whnf); first | refine bs_d (fun q => ?_) (fun q => ?_) | refine bs_n ?_ | refine bs_i (fun q => ?_) (fun q => ?_) | refine eqk rfl ?_ | refine ffin _ rfl rfl hS (Sub.refl _) rfl ⟨?_, rfl, rfl⟩)
  refine fcut (α := Int) rfl (fun _ => True) (fun y => [(0, .d (.po pid 0))]) (fun y => S.set pid (.arr [.int .u64 y])) (fun _ => []) (fun _ => []) (fun y _ => hgS y) ?_ fun y _ => ?_
  · skip
    repeat' first | with_reducible refine fzD_ite (fun q => ?_) (fun q => ?_) | ((try conv => whnf); first | refine bs_d (fun q => ?_) (fun q => ?_) | refine bs_n ?_ | refine bs_i (fun q => ?_) (fun q => ?_) | refine pK_i (ldO_old hp rfl) ?_ | refine gk_stpo_old (by simp) rfl rfl hp rfl ⟨rfl, rfl, rfl, Nat.le_refl _⟩ ?_ | refine eqk rfl ?_ | refine ffin _ rfl rfl hS (Sub.refl _) rfl ⟨?_, rfl, rfl⟩)
    exact fcnext (α := Int) _ trivial rfl (fstep_sub ⟨Sub.refl _, trivial⟩)
  refine fcut (α := Int) rfl (fun _ => True) (fun y => [(0, .d (.po pid 0))]) (fun y => S.set pid (.arr [.int .u64 y])) (fun _ => []) (fun _ => []) (fun y _ => hgS y) ?_ fun z _ => ?_
  · skip
    repeat' first | with_reducible refine fzD_ite (fun q => ?_) (fun q => ?_) | ((try conv => whnf); first | refine bs_d (fun q => ?_) (fun q => ?_) | refine bs_n ?_ | refine bs_i (fun q => ?_) (fun q => ?_) | refine pK_i (ldO_old (ha y) rfl) ?_ | refine gk_stpo_old (by simp) rfl rfl (ha y) rfl ⟨rfl, rfl, rfl, Nat.le_refl _⟩ ?_ | refine eqk rfl ?_ | refine ffin _ rfl rfl hS (Sub.refl _) rfl ⟨?_, rfl, rfl⟩)
    exact fcnext (α := Int) _ trivial (by rw [List.set_set]; rfl) (fstep_sub ⟨Sub.refl _, trivial⟩)
  refine fcut (α := Int) rfl (fun y => 0 ≤ y ∧ y < 18446744073709551616) (fun y => [(0, .d (.po pid 0))]) (fun y => S.set pid (.arr [.int .u64 y])) (fun _ => []) (fun _ => []) (fun y _ => hgS y) ?_ fun u hu => ?_
  · skip
    repeat' first | with_reducible refine fzD_ite (fun q => ?_) (fun q => ?_) | ((try conv => whnf); first | refine bs_d (fun q => ?_) (fun q => ?_) | refine bs_n ?_ | refine bs_i (fun q => ?_) (fun q => ?_) | refine pK_i (ldO_old (ha z) rfl) ?_ | refine gk_stpo_old (by simp) rfl rfl (ha z) rfl ⟨rfl, rfl, rfl, Nat.le_refl _⟩ ?_ | refine eqk rfl ?_ | refine ffin _ rfl rfl hS (Sub.refl _) rfl ⟨?_, rfl, rfl⟩)
    exact fcnext (α := Int) _ (wu64_range _) (by rw [List.set_set]; rfl) (fstep_sub ⟨Sub.refl _, trivial⟩)
  repeat' first | with_reducible refine fzD_ite (fun q => ?_) (fun q => ?_) | ((try conv => whnf); first | refine bs_d (fun q => ?_) (fun q => ?_) | refine bs_n ?_ | refine bs_i (fun q => ?_) (fun q => ?_) | refine pK_i (ldO_old (ha u) rfl) ?_ | refine ffin _ (by simp) rfl (hgS u).2 (Sub.refl _) rfl ⟨_, ⟨u, hu.1, hu.2, rfl, rfl⟩, rfl, rfl⟩ | refine eqk rfl ?_ | refine ffin _ rfl rfl hS (Sub.refl _) rfl ⟨?_, rfl, rfl⟩)
theorem andz {y : Int} {M : Nat} (h0 : 0 ≤ y) (h1 : y < 18446744073709551616) (hM : 0 < M) (hM2 : M < 9223372036854775808) :
    ∃ z : Nat, IntKind.i64.wrap (IntKind.u64.wrap (BitVec.ofInt IntKind.u64.bits y &&& BitVec.ofInt IntKind.u64.bits (IntKind.u64.wrap ((M : Int) - 1))).toNat) = z ∧ z < M := by
  have e : IntKind.u64.wrap ((M : Int) - 1) = ((M - 1 : Nat) : Int) := by rw [wu64]; omega
  have h := bits_and_u64_nat y.toNat (M - 1) (by omega) (by omega)
  rw [Int.toNat_of_nonneg h0] at h
  have h2 : y.toNat &&& (M - 1) ≤ M - 1 := Nat.and_le_right
  refine ⟨y.toNat &&& (M - 1), ?_, by omega⟩
  rw [e]
  refine (congrArg IntKind.i64.wrap h).trans ?_
  rw [wi64_id]; unfold I64; omega
theorem c20 : cFun E0.P 20 = some ⟨9, [(2, none)], .seq (.rg [⟨some 2, none, .mv (.k (.bool false))⟩]) (.seq (.rg [⟨some 3, none, .mv (.t 0)⟩, ⟨some 4, none, .bin .geq .leaf (.t 3) (.k (.int .i64 1))⟩, ⟨some 5, none, .mv (.t 4)⟩, ⟨some 6, some (5, true), .mv (.t 0)⟩, ⟨some 7, some (5, true), .bin .leq .leaf (.t 6) (.k (.int .i64 3652059))⟩, ⟨some 8, none, .pick (.t 5) (.t 7) (.k (.bool false))⟩, ⟨some 2, none, .mv (.t 8)⟩]) .ret)⟩ := by kernel_rfl
theorem c47 : cFun E0.P 47 = some ⟨12, [(4, none)], .seq (.rg [⟨some 4, none, .mv (.k (.bool false))⟩]) (.seq (.rg [⟨some 5, none, .mv (.t 0)⟩, ⟨some 6, none, .bin .geq .leaf (.t 5) (.k (.int .i64 0))⟩, ⟨some 7, none, .mv (.t 6)⟩, ⟨some 8, some (7, true), .mv (.t 0)⟩, ⟨some 9, some (7, true), .mv (.t 1)⟩, ⟨some 10, some (7, true), .bin .leq .leaf (.t 8) (.t 9)⟩, ⟨some 11, none, .pick (.t 7) (.t 10) (.k (.bool false))⟩, ⟨some 4, none, .mv (.t 11)⟩]) .ret)⟩ := by kernel_rfl
theorem c37 : cFun E0.P 37 = some ⟨34, [(2, none)], .seq (.rg [⟨some 2, none, .mv (.k (.bool false))⟩]) (.seq (.seq (.rg [⟨some 3, none, .mv (.k (.int .i64 0))⟩]) (.block 0 (.loop (.seq (.seq (.rg [⟨some 4, none, .mv (.t 3)⟩, ⟨some 5, none, .bin .add .leaf (.t 4) (.k (.int .i64 2))⟩, ⟨some 6, none, .mv (.t 0)⟩, ⟨some 7, none, .len 1 (.t 6)⟩, ⟨some 8, none, .bin .lss .leaf (.t 5) (.t 7)⟩]) (.cond (.t 8) .skip (.exit 0))) (.seq (.block 1 (.seq (.rd [(⟨some 11, none, .mv (.t 0)⟩, none), (⟨some 12, none, .mv (.t 3)⟩, none), (⟨some 13, none, .bin .add .leaf (.t 12) (.k (.int .i64 1))⟩, none), (⟨some 14, none, .ia 1 (.t 11) (.t 13)⟩, none), (⟨some 15, none, .ld 1 false (.t 14)⟩, none), (⟨some 16, none, .mv (.t 0)⟩, none), (⟨some 17, none, .mv (.t 3)⟩, none), (⟨some 18, none, .ia 1 (.t 16) (.t 17)⟩, none), (⟨some 19, none, .ld 1 false (.t 18)⟩, none), (⟨some 20, none, .bin .lss .leaf (.t 15) (.t 19)⟩, none), (⟨some 21, none, .mv (.t 20)⟩, none), (⟨some 22, some (21, false), .mv (.t 0)⟩, none), (⟨some 23, some (21, false), .mv (.t 3)⟩, none), (⟨some 24, some (21, false), .bin .add .leaf (.t 23) (.k (.int .i64 1))⟩, none), (⟨some 25, some (21, false), .ia 1 (.t 22) (.t 24)⟩, none), (⟨some 26, some (21, false), .ld 1 false (.t 25)⟩, none), (⟨some 27, some (21, false), .mv (.t 0)⟩, none), (⟨some 28, some (21, false), .mv (.t 3)⟩, none), (⟨some 29, some (21, false), .bin .add .leaf (.t 28) (.k (.int .i64 2))⟩, none), (⟨some 30, some (21, false), .ia 1 (.t 27) (.t 29)⟩, none), (⟨some 31, some (21, false), .ld 1 false (.t 30)⟩, none), (⟨some 32, some (21, false), .bin .gtr .leaf (.t 26) (.t 31)⟩, none), (⟨some 33, none, .pick (.t 21) (.k (.bool true)) (.t 32)⟩, none)]) (.cond (.t 33) (.seq (.rg [⟨some 2, none, .mv (.k (.bool false))⟩]) .ret) .skip))) (.rg [⟨some 9, none, .mv (.t 3)⟩, ⟨some 10, none, .bin .add .leaf (.t 9) (.k (.int .i64 3))⟩, ⟨some 3, none, .mv (.t 10)⟩])))))) (.seq (.rg [⟨some 2, none, .mv (.k (.bool true))⟩]) .ret))⟩ := by kernel_rfl

theorem day (n : Int) : Pure 20 [.int .i64 n] (.bool (decide (1 ≤ n ∧ n ≤ 3652059))) := by
  intro S tk
  refine ACalls.fgo c20 rfl fun hS => ?_
  repeat' refine bs_i (fun h => ?_) (fun h => ?_)
  all_goals refine ffin _ rfl rfl hS (Sub.refl _) rfl ⟨?_, rfl, rfl⟩
  all_goals (simp at *; simp only [tupD, D.bool.injEq]; simp; omega)
theorem part (n m : Int) : Pure 47 [.int .i64 n, .int .i64 m] (.bool (decide (0 ≤ n ∧ n ≤ m))) := by
  intro S tk
  refine ACalls.fgo c47 rfl fun hS => ?_
  repeat' refine bs_i (fun h => ?_) (fun h => ?_)
  all_goals refine ffin _ rfl rfl hS (Sub.refl _) rfl ⟨?_, rfl, rfl⟩
  all_goals (simp at *; simp only [tupD, D.bool.injEq]; simp; omega)
def withinS : List Int → Bool
  | a :: b :: c :: r => if b < a ∨ c < b then false else withinS r
  | _ => true
theorem withinS_cons (a b c : Int) (r : List Int) : withinS (a :: b :: c :: r) = (decide (a ≤ b ∧ b ≤ c) && withinS r) := by
  simp only [withinS]
  by_cases h : b < a ∨ c < b
  · rw [if_pos h, decide_eq_false (by omega)]; rfl
  · rw [if_neg h, decide_eq_true (by omega)]; rfl
theorem withinS_nil : withinS [] = true := rfl
theorem within (l : List Int) (hl : l.length < 4611686018427387904) : Pure 37 [.sl (i64s l)] (.bool (withinS l)) := by
  intro S tk
  refine ACalls.withSc fun hsc => ?_
  refine ACalls.fgo c37 rfl fun hS => ?_
  refine floop (α := Nat) rfl rfl hS (fun i => i ≤ l.length + 2 ∧ withinS (l.drop i) = withinS l) (fun i => l.length + 2 - i) (fun i => [(3, .d (.int .i64 i)), (0, .d (.sl (i64s l)))]) (fun _ => []) (fun _ => []) 0 ⟨by omega, rfl⟩ (fstep_sub ⟨Sub.refl _, Sub.refl _, trivial⟩) ?_
  rintro i ⟨hi, hw⟩
  refine bs_i (fun h => ?_) (fun h => ?_)
  · rw [i64s_len] at h
    simp only [wi64, decide_eq_true_eq] at h
    have hi2 : i + 2 < l.length := by omega
    obtain ⟨a, b, c, r, hd⟩ : ∃ a b c r, l.drop i = a :: b :: c :: r := by
      refine ⟨l[i], l[i+1], l[i+2], l.drop (i+3), ?_⟩
      rw [List.drop_eq_getElem_cons (by omega), List.drop_eq_getElem_cons (by omega), List.drop_eq_getElem_cons (by omega)]
    have ha : ∀ (j : Nat), l[i + j]? = (a :: b :: c :: r)[j]? := fun j => by rw [← hd, List.getElem?_drop]
    have h1 : IntKind.i64.wrap (i + 1) = ((i + 1 : Nat) : Int) := by rw [wi64]; omega
    have h2 : IntKind.i64.wrap (i + 2) = ((i + 2 : Nat) : Int) := by rw [wi64]; omega
    have h3 : IntKind.i64.wrap (i + 3) = ((i + 3 : Nat) : Int) := by rw [wi64]; omega
    have hr : l.drop (i + 3) = r := by rw [← List.drop_drop, hd]; rfl
    refine pK_i (iaD_i64s (a := b) (by rw [h1]; omega) (by rw [h1]; exact ha 1)) ?_
    refine pK_i (iaD_i64s (a := a) (by omega) (ha 0)) ?_
    refine bs_i (fun q => ?_) (fun q => ?_)
    · refine ffin _ rfl rfl hS (Sub.refl _) rfl ⟨?_, rfl, rfl⟩
      rw [← hw, hd]; simp at q; simp [withinS, q, tupD]
    · refine pK_i (iaD_i64s (a := b) (by rw [h1]; omega) (by rw [h1]; exact ha 1)) ?_
      refine pK_i (iaD_i64s (a := c) (by rw [h2]; omega) (by rw [h2]; exact ha 2)) ?_
      refine bs_i (fun q2 => ?_) (fun q2 => ?_)
      · refine ffin _ rfl rfl hS (Sub.refl _) rfl ⟨?_, rfl, rfl⟩
        rw [← hw, hd]; simp at q q2; simp [withinS, q, q2, tupD]
      · refine fnext (i + 3) ⟨by omega, ?_⟩ (by omega) (fstep_sub ⟨Sub.int h3, Sub.refl _, trivial⟩)
        rw [← hw, hd, hr]; simp at q q2; simp [withinS]; omega
  · rw [i64s_len] at h
    simp only [wi64, decide_eq_false_iff_not] at h
    refine ffin _ rfl rfl hS (Sub.refl _) rfl ⟨?_, rfl, rfl⟩
    rw [← hw]
    have : (l.drop i).length ≤ 2 := by rw [List.length_drop]; omega
    match l.drop i, this with
    | [], _ => rfl
    | [_], _ => rfl
    | [_, _], _ => rfl
    | _ :: _ :: _ :: _, h => simp at h
structure Iv where
  id : Int
  cu : Int
  co : Int
  day : Int
  due : Int
  fr : Int
  nx : Int
  am : Int
  cr : Int
  pd : Int
  lo : Int
  deriving DecidableEq
def Iv.cs (x : Iv) : List D := [.int .u64 x.id, .int .u64 x.cu, .int .u64 x.co, .int .i64 x.day, .int .i64 x.due, .int .i64 x.fr, .int .i64 x.nx, .int .i64 x.am, .int .i64 x.cr, .int .i64 x.pd, .int .i64 x.lo]
def Iv.d (x : Iv) : D := .agg x.cs
structure Iv.R (x : Iv) : Prop where
  id : U64 x.id
  cu : U64 x.cu
  co : U64 x.co
  day : I64 x.day
  due : I64 x.due
  fr : I64 x.fr
  nx : I64 x.nx
  am : I64 x.am
  cr : I64 x.cr
  pd : I64 x.pd
  lo : I64 x.lo
def Iv.ok (x : Iv) : Prop :=
  (x.id ≠ 0 ∧ x.cu ≠ 0 ∧ 1 ≤ x.day ∧ x.day ≤ x.due ∧ x.due ≤ 3652059 ∧ 1 ≤ x.fr ∧ x.fr < x.nx ∧ x.nx ≤ 3652060) ∧
  (0 ≤ x.am ∧ x.am ≤ 4611686018427387903 ∧ 0 ≤ x.cr ∧ x.cr ≤ x.am ∧ 0 ≤ x.pd ∧ x.pd ≤ x.am ∧ 0 ≤ x.lo ∧ x.lo ≤ x.am) ∧ x.cr + x.pd + x.lo ≤ x.am
instance (x : Iv) : Decidable x.ok := inferInstanceAs (Decidable ((x.id ≠ 0 ∧ x.cu ≠ 0 ∧ 1 ≤ x.day ∧ x.day ≤ x.due ∧ x.due ≤ 3652059 ∧ 1 ≤ x.fr ∧ x.fr < x.nx ∧ x.nx ≤ 3652060) ∧ (0 ≤ x.am ∧ x.am ≤ 4611686018427387903 ∧ 0 ≤ x.cr ∧ x.cr ≤ x.am ∧ 0 ≤ x.pd ∧ x.pd ≤ x.am ∧ 0 ≤ x.lo ∧ x.lo ≤ x.am) ∧ x.cr + x.pd + x.lo ≤ x.am))

theorem c26 : cFun E0.P 26 = some ⟨71, [(2, none)], .seq (.rg [⟨some 1, none, .box (.t 0) 27⟩, ⟨some 2, none, .mv (.k (.int .i64 0))⟩]) (.seq (.rg [⟨some 6, none, .fa 3 (.t 1)⟩, ⟨some 7, none, .ld 1 false (.t 6)⟩, ⟨some 8, none, .fa 4 (.t 1)⟩, ⟨some 9, none, .ld 1 false (.t 8)⟩, ⟨some 10, none, .fa 4 (.t 1)⟩, ⟨some 11, none, .ld 1 false (.t 10)⟩, ⟨some 12, none, .fa 5 (.t 1)⟩, ⟨some 13, none, .ld 1 false (.t 12)⟩, ⟨some 14, none, .fa 6 (.t 1)⟩, ⟨some 15, none, .ld 1 false (.t 14)⟩, ⟨some 16, none, .bin .sub .leaf (.t 15) (.k (.int .i64 1))⟩, ⟨some 17, none, .fa 6 (.t 1)⟩, ⟨some 18, none, .ld 1 false (.t 17)⟩, ⟨some 19, none, .buildS 12 1 [.int .i64 0] [(0, .k (.int .i64 1)), (1, .t 7), (2, .t 9), (3, .k (.int .i64 1)), (4, .t 11), (5, .k (.int .i64 3652059)), (6, .k (.int .i64 1)), (7, .t 13), (8, .t 16), (9, .k (.int .i64 1)), (10, .t 18), (11, .k (.int .i64 3652060))] 2⟩, ⟨some 20, none, .call 37 [.t 19]⟩, ⟨some 3, none, .mv (.t 20)⟩]) (.seq (.seq (.rg [⟨some 21, none, .fa 0 (.t 1)⟩, ⟨some 22, none, .ld 1 false (.t 21)⟩, ⟨some 23, none, .bin .eql .leaf (.t 22) (.k (.int .u64 0))⟩, ⟨some 24, none, .mv (.t 23)⟩, ⟨some 25, some (24, false), .fa 1 (.t 1)⟩, ⟨some 26, some (24, false), .ld 1 false (.t 25)⟩, ⟨some 27, some (24, false), .bin .eql .leaf (.t 26) (.k (.int .u64 0))⟩, ⟨some 28, none, .pick (.t 24) (.k (.bool true)) (.t 27)⟩, ⟨some 29, none, .mv (.t 28)⟩, ⟨some 30, some (29, false), .mv (.t 3)⟩, ⟨some 31, some (29, false), .un .not (.t 30)⟩, ⟨some 32, none, .pick (.t 29) (.k (.bool true)) (.t 31)⟩, ⟨some 33, none, .mv (.t 32)⟩, ⟨some 34, some (33, false), .fa 7 (.t 1)⟩, ⟨some 35, some (33, false), .ld 1 false (.t 34)⟩, ⟨some 36, some (33, false), .fa 8 (.t 1)⟩, ⟨some 37, some (33, false), .ld 1 false (.t 36)⟩, ⟨some 38, some (33, false), .fa 7 (.t 1)⟩, ⟨some 39, some (33, false), .ld 1 false (.t 38)⟩, ⟨some 40, some (33, false), .fa 9 (.t 1)⟩, ⟨some 41, some (33, false), .ld 1 false (.t 40)⟩, ⟨some 42, some (33, false), .fa 7 (.t 1)⟩, ⟨some 43, some (33, false), .ld 1 false (.t 42)⟩, ⟨some 44, some (33, false), .fa 10 (.t 1)⟩, ⟨some 45, some (33, false), .ld 1 false (.t 44)⟩, ⟨some 46, some (33, false), .fa 7 (.t 1)⟩, ⟨some 47, some (33, false), .ld 1 false (.t 46)⟩, ⟨some 48, some (33, false), .buildS 12 1 [.int .i64 0] [(0, .k (.int .i64 0)), (1, .t 35), (2, .k (.int .i64 4611686018427387903)), (3, .k (.int .i64 0)), (4, .t 37), (5, .t 39), (6, .k (.int .i64 0)), (7, .t 41), (8, .t 43), (9, .k (.int .i64 0)), (10, .t 45), (11, .t 47)] 2⟩, ⟨some 49, some (33, false), .call 37 [.t 48]⟩, ⟨some 50, some (33, false), .un .not (.t 49)⟩, ⟨some 51, none, .pick (.t 33) (.k (.bool true)) (.t 50)⟩]) (.cond (.t 51) (.seq (.rg [⟨some 2, none, .mv (.k (.int .i64 2))⟩]) .ret) .skip)) (.seq (.seq (.rg [⟨some 53, none, .fa 8 (.t 1)⟩, ⟨some 54, none, .ld 1 false (.t 53)⟩, ⟨some 55, none, .fa 9 (.t 1)⟩, ⟨some 56, none, .ld 1 false (.t 55)⟩, ⟨some 57, none, .fa 10 (.t 1)⟩, ⟨some 58, none, .ld 1 false (.t 57)⟩, ⟨some 59, none, .buildS 3 1 [.int .i64 0] [(0, .t 54), (1, .t 56), (2, .t 58)] 2⟩, ⟨some 60, none, .call 33 [.t 59]⟩, ⟨some 52, none, .mv (.t 60)⟩, ⟨some 61, none, .ext 0 (.t 52)⟩, ⟨some 62, none, .ext 1 (.t 52)⟩, ⟨some 4, none, .mv (.t 61)⟩, ⟨some 5, none, .mv (.t 62)⟩]) (.seq (.rg [⟨some 63, none, .mv (.t 5)⟩, ⟨some 64, none, .un .not (.t 63)⟩, ⟨some 65, none, .mv (.t 64)⟩, ⟨some 66, some (65, false), .mv (.t 4)⟩, ⟨some 67, some (65, false), .fa 7 (.t 1)⟩, ⟨some 68, some (65, false), .ld 1 false (.t 67)⟩, ⟨some 69, some (65, false), .bin .gtr .leaf (.t 66) (.t 68)⟩, ⟨some 70, none, .pick (.t 65) (.k (.bool true)) (.t 69)⟩]) (.cond (.t 70) (.seq (.rg [⟨some 2, none, .mv (.k (.int .i64 2))⟩]) .ret) .skip))) (.seq (.rg [⟨some 2, none, .mv (.k (.int .i64 0))⟩]) .ret))))⟩ := by kernel_rfl
theorem c11 : cFun E0.P 11 = some ⟨17, [(2, none)], .seq (.rg [⟨some 1, none, .box (.t 0) 27⟩, ⟨some 2, none, .mv (.k (.int .i64 0))⟩]) (.seq (.seq (.rg [⟨some 3, none, .ld 11 true (.t 1)⟩, ⟨some 4, none, .call 26 [.t 3]⟩, ⟨some 5, none, .bin .neq .leaf (.t 4) (.k (.int .i64 0))⟩]) (.cond (.t 5) (.seq (.rg [⟨some 2, none, .mv (.k (.int .i64 0))⟩]) .ret) .skip)) (.seq (.rg [⟨some 6, none, .fa 7 (.t 1)⟩, ⟨some 7, none, .ld 1 false (.t 6)⟩, ⟨some 8, none, .fa 8 (.t 1)⟩, ⟨some 9, none, .ld 1 false (.t 8)⟩, ⟨some 10, none, .bin .sub .leaf (.t 7) (.t 9)⟩, ⟨some 11, none, .fa 9 (.t 1)⟩, ⟨some 12, none, .ld 1 false (.t 11)⟩, ⟨some 13, none, .bin .sub .leaf (.t 10) (.t 12)⟩, ⟨some 14, none, .fa 10 (.t 1)⟩, ⟨some 15, none, .ld 1 false (.t 14)⟩, ⟨some 16, none, .bin .sub .leaf (.t 13) (.t 15)⟩, ⟨some 2, none, .mv (.t 16)⟩]) .ret))⟩ := by kernel_rfl
theorem c36 : cFun E0.P 36 = some ⟨103, [(2, none), (3, none)], .seq (.rg [⟨some 1, none, .box (.t 0) 27⟩, ⟨some 2, none, .mv (.k (.int .i64 0))⟩, ⟨some 3, none, .mv (.k (.bool false))⟩]) (.seq (.seq (.rg [⟨some 5, none, .fa 0 (.t 1)⟩, ⟨some 6, none, .ld 1 false (.t 5)⟩, ⟨some 7, none, .bin .eql .leaf (.t 6) (.k (.int .u64 0))⟩, ⟨some 8, none, .mv (.t 7)⟩, ⟨some 9, some (8, false), .fa 1 (.t 1)⟩, ⟨some 10, some (8, false), .ld 1 false (.t 9)⟩, ⟨some 11, some (8, false), .bin .eql .leaf (.t 10) (.k (.int .u64 0))⟩, ⟨some 12, none, .pick (.t 8) (.k (.bool true)) (.t 11)⟩, ⟨some 13, none, .mv (.t 12)⟩, ⟨some 14, some (13, false), .fa 3 (.t 1)⟩, ⟨some 15, some (13, false), .ld 1 false (.t 14)⟩, ⟨some 16, some (13, false), .call 20 [.t 15]⟩, ⟨some 17, some (13, false), .un .not (.t 16)⟩, ⟨some 18, none, .pick (.t 13) (.k (.bool true)) (.t 17)⟩, ⟨some 19, none, .mv (.t 18)⟩, ⟨some 20, some (19, false), .fa 4 (.t 1)⟩, ⟨some 21, some (19, false), .ld 1 false (.t 20)⟩, ⟨some 22, some (19, false), .call 20 [.t 21]⟩, ⟨some 23, some (19, false), .un .not (.t 22)⟩, ⟨some 24, none, .pick (.t 19) (.k (.bool true)) (.t 23)⟩, ⟨some 25, none, .mv (.t 24)⟩, ⟨some 26, some (25, false), .fa 4 (.t 1)⟩, ⟨some 27, some (25, false), .ld 1 false (.t 26)⟩, ⟨some 28, some (25, false), .fa 3 (.t 1)⟩, ⟨some 29, some (25, false), .ld 1 false (.t 28)⟩, ⟨some 30, some (25, false), .bin .lss .leaf (.t 27) (.t 29)⟩, ⟨some 31, none, .pick (.t 25) (.k (.bool true)) (.t 30)⟩, ⟨some 32, none, .mv (.t 31)⟩, ⟨some 33, some (32, false), .fa 5 (.t 1)⟩, ⟨some 34, some (32, false), .ld 1 false (.t 33)⟩, ⟨some 35, some (32, false), .call 20 [.t 34]⟩, ⟨some 36, some (32, false), .un .not (.t 35)⟩, ⟨some 37, none, .pick (.t 32) (.k (.bool true)) (.t 36)⟩, ⟨some 38, none, .mv (.t 37)⟩, ⟨some 39, some (38, false), .fa 6 (.t 1)⟩, ⟨some 40, some (38, false), .ld 1 false (.t 39)⟩, ⟨some 41, some (38, false), .fa 5 (.t 1)⟩, ⟨some 42, some (38, false), .ld 1 false (.t 41)⟩, ⟨some 43, some (38, false), .bin .leq .leaf (.t 40) (.t 42)⟩, ⟨some 44, none, .pick (.t 38) (.k (.bool true)) (.t 43)⟩, ⟨some 45, none, .mv (.t 44)⟩, ⟨some 46, some (45, false), .fa 6 (.t 1)⟩, ⟨some 47, some (45, false), .ld 1 false (.t 46)⟩, ⟨some 48, some (45, false), .bin .gtr .leaf (.t 47) (.k (.int .i64 3652060))⟩, ⟨some 49, none, .pick (.t 45) (.k (.bool true)) (.t 48)⟩]) (.cond (.t 49) (.seq (.rg [⟨some 2, none, .mv (.k (.int .i64 0))⟩, ⟨some 3, none, .mv (.k (.bool false))⟩]) .ret) .skip)) (.seq (.seq (.rg [⟨some 50, none, .fa 7 (.t 1)⟩, ⟨some 51, none, .ld 1 false (.t 50)⟩, ⟨some 52, none, .bin .lss .leaf (.t 51) (.k (.int .i64 0))⟩, ⟨some 53, none, .mv (.t 52)⟩, ⟨some 54, some (53, false), .fa 7 (.t 1)⟩, ⟨some 55, some (53, false), .ld 1 false (.t 54)⟩, ⟨some 56, some (53, false), .bin .geq .leaf (.t 55) (.k (.int .i64 4611686018427387904))⟩, ⟨some 57, none, .pick (.t 53) (.k (.bool true)) (.t 56)⟩, ⟨some 58, none, .mv (.t 57)⟩, ⟨some 59, some (58, false), .fa 8 (.t 1)⟩, ⟨some 60, some (58, false), .ld 1 false (.t 59)⟩, ⟨some 61, some (58, false), .fa 7 (.t 1)⟩, ⟨some 62, some (58, false), .ld 1 false (.t 61)⟩, ⟨some 63, some (58, false), .call 47 [.t 60, .t 62]⟩, ⟨some 64, some (58, false), .un .not (.t 63)⟩, ⟨some 65, none, .pick (.t 58) (.k (.bool true)) (.t 64)⟩, ⟨some 66, none, .mv (.t 65)⟩, ⟨some 67, some (66, false), .fa 9 (.t 1)⟩, ⟨some 68, some (66, false), .ld 1 false (.t 67)⟩, ⟨some 69, some (66, false), .fa 7 (.t 1)⟩, ⟨some 70, some (66, false), .ld 1 false (.t 69)⟩, ⟨some 71, some (66, false), .call 47 [.t 68, .t 70]⟩, ⟨some 72, some (66, false), .un .not (.t 71)⟩, ⟨some 73, none, .pick (.t 66) (.k (.bool true)) (.t 72)⟩, ⟨some 74, none, .mv (.t 73)⟩, ⟨some 75, some (74, false), .fa 10 (.t 1)⟩, ⟨some 76, some (74, false), .ld 1 false (.t 75)⟩, ⟨some 77, some (74, false), .fa 7 (.t 1)⟩, ⟨some 78, some (74, false), .ld 1 false (.t 77)⟩, ⟨some 79, some (74, false), .call 47 [.t 76, .t 78]⟩, ⟨some 80, some (74, false), .un .not (.t 79)⟩, ⟨some 81, none, .pick (.t 74) (.k (.bool true)) (.t 80)⟩]) (.cond (.t 81) (.seq (.rg [⟨some 2, none, .mv (.k (.int .i64 0))⟩, ⟨some 3, none, .mv (.k (.bool false))⟩]) .ret) .skip)) (.seq (.rg [⟨some 82, none, .fa 7 (.t 1)⟩, ⟨some 83, none, .ld 1 false (.t 82)⟩, ⟨some 84, none, .fa 8 (.t 1)⟩, ⟨some 85, none, .ld 1 false (.t 84)⟩, ⟨some 86, none, .bin .sub .leaf (.t 83) (.t 85)⟩, ⟨some 4, none, .mv (.t 86)⟩]) (.seq (.seq (.rg [⟨some 87, none, .fa 9 (.t 1)⟩, ⟨some 88, none, .ld 1 false (.t 87)⟩, ⟨some 89, none, .mv (.t 4)⟩, ⟨some 90, none, .bin .gtr .leaf (.t 88) (.t 89)⟩]) (.cond (.t 90) (.seq (.rg [⟨some 2, none, .mv (.k (.int .i64 0))⟩, ⟨some 3, none, .mv (.k (.bool false))⟩]) .ret) .skip)) (.seq (.rg [⟨some 91, none, .mv (.t 4)⟩, ⟨some 92, none, .fa 9 (.t 1)⟩, ⟨some 93, none, .ld 1 false (.t 92)⟩, ⟨some 94, none, .bin .sub .leaf (.t 91) (.t 93)⟩, ⟨some 4, none, .mv (.t 94)⟩]) (.seq (.seq (.rg [⟨some 95, none, .fa 10 (.t 1)⟩, ⟨some 96, none, .ld 1 false (.t 95)⟩, ⟨some 97, none, .mv (.t 4)⟩, ⟨some 98, none, .bin .gtr .leaf (.t 96) (.t 97)⟩]) (.cond (.t 98) (.seq (.rg [⟨some 2, none, .mv (.k (.int .i64 0))⟩, ⟨some 3, none, .mv (.k (.bool false))⟩]) .ret) .skip)) (.seq (.rg [⟨some 99, none, .mv (.t 4)⟩, ⟨some 100, none, .fa 10 (.t 1)⟩, ⟨some 101, none, .ld 1 false (.t 100)⟩, ⟨some 102, none, .bin .sub .leaf (.t 99) (.t 101)⟩, ⟨some 2, none, .mv (.t 102)⟩, ⟨some 3, none, .mv (.k (.bool true))⟩]) .ret)))))))⟩ := by kernel_rfl

theorem Check (x : Iv) (hx : x.R) : Pure 26 [x.d] (.int .i64 (if x.ok then 0 else 2)) := by
  intro S tk
  refine ACalls.fgo c26 rfl fun hS => ?_
  refine ck rfl rfl (within [1, x.day, x.due, 1, x.due, 3652059, 1, x.fr, _, 1, x.nx, 3652060] (by simp)) ?_
  have h1 := hx.fr
  have h2 := hx.nx
  unfold I64 at h1 h2
  repeat' first | with_reducible refine fzD_ite (fun q => ?_) (fun q => ?_) | ((try conv => whnf); first | refine bs_d (fun q => ?_) (fun q => ?_) | refine bs_n ?_ | refine bs_i (fun q => ?_) (fun q => ?_) | refine ckz (within [0, x.am, 4611686018427387903, 0, x.cr, x.am, 0, x.pd, x.am, 0, x.lo, x.am] (by simp)) ?_ | refine cq (within [0, x.am, 4611686018427387903, 0, x.cr, x.am, 0, x.pd, x.am, 0, x.lo, x.am] (by simp)) ?_ | refine ckz (Sum [x.cr, x.pd, x.lo] (by simp) (by simp [hx.cr, hx.pd, hx.lo])) ?_ | refine cq (Sum [x.cr, x.pd, x.lo] (by simp) (by simp [hx.cr, hx.pd, hx.lo])) ?_ | refine eqk rfl ?_ | refine ffin _ rfl rfl hS (Sub.refl _) rfl ⟨?_, rfl, rfl⟩)
  all_goals try simp only [withinS_cons, withinS_nil, Bool.and_eq_true, Bool.and_eq_false_iff, decide_eq_true_eq, decide_eq_false_iff_not, wi64, List.sum_cons, List.sum_nil, reduceCtorEq, or_false, and_true, Bool.true_eq_false, Bool.false_eq_true] at *
  all_goals try simp only [tupD, D.int.injEq, true_and]
  all_goals first
    | (rw [if_neg (by unfold Iv.ok; omega)])
    | (rw [if_pos (by unfold Iv.ok; omega)])

theorem refOpen (x : Iv) (hx : x.R) : Pure 36 [x.d] (if x.ok then .tup [.int .i64 (x.am - x.cr - x.pd - x.lo), .bool true] else .tup [.int .i64 0, .bool false]) := by
  intro S tk
  refine ACalls.fgo c36 rfl fun hS => ?_
  have h1 := hx.fr
  have h2 := hx.nx
  unfold I64 at h1 h2
  repeat' first | with_reducible refine fzD_ite (fun q => ?_) (fun q => ?_) | ((try conv => whnf); first | refine bs_d (fun q => ?_) (fun q => ?_) | refine bs_n ?_ | refine bs_i (fun q => ?_) (fun q => ?_) | refine ckz (day _) ?_ | refine cq (day _) ?_ | refine ckz (part _ _) ?_ | refine cq (part _ _) ?_ | refine eqk rfl ?_ | refine ffin _ rfl rfl hS (Sub.refl _) rfl ⟨?_, rfl, rfl⟩)
  all_goals try simp only [wi64] at *
  all_goals try simp only [tupD]
  all_goals first
    | (rw [if_neg (by unfold Iv.ok; omega)])
    | (rw [if_pos (by unfold Iv.ok; omega)]; simp only [D.tup.injEq, List.cons.injEq, D.int.injEq, true_and, and_true]; omega)

def Iv.op (x : Iv) : Int := if x.ok then x.am - x.cr - x.pd - x.lo else 0

theorem Open (x : Iv) (hx : x.R) : Pure 11 [x.d] (.int .i64 x.op) := by
  intro S tk
  have hc := Check x hx
  by_cases hok : x.ok
  · rw [if_pos hok] at hc
    refine ACalls.fgo c11 rfl fun hS => ?_
    repeat' first | with_reducible refine fzD_ite (fun q => ?_) (fun q => ?_) | ((try conv => whnf); first | refine bs_d (fun q => ?_) (fun q => ?_) | refine bs_n ?_ | refine bs_i (fun q => ?_) (fun q => ?_) | refine ckz (hc) ?_ | refine cq (hc) ?_ | refine eqk rfl ?_ | refine ffin _ rfl rfl hS (Sub.refl _) rfl ⟨?_, rfl, rfl⟩)
    have hk := hok
    unfold Iv.ok at hk
    simp only [tupD, Iv.op, wi64, D.int.injEq, true_and, if_pos hok]
    omega
  · rw [if_neg hok] at hc
    refine ACalls.fgo c11 rfl fun hS => ?_
    repeat' first | with_reducible refine fzD_ite (fun q => ?_) (fun q => ?_) | ((try conv => whnf); first | refine bs_d (fun q => ?_) (fun q => ?_) | refine bs_n ?_ | refine bs_i (fun q => ?_) (fun q => ?_) | refine ckz (hc) ?_ | refine cq (hc) ?_ | refine eqk rfl ?_ | refine ffin _ rfl rfl hS (Sub.refl _) rfl ⟨?_, rfl, rfl⟩)
    simp only [tupD, Iv.op, D.int.injEq, true_and, if_neg hok]
theorem c38 : cFun E0.P 38 = some ⟨35, [(4, none), (5, none), (6, none)], .seq (.rg [⟨some 2, none, .box (.t 0) 27⟩, ⟨some 4, none, .mv (.k (.int .i64 0))⟩, ⟨some 5, none, .mv (.k (.int .i64 0))⟩, ⟨some 6, none, .mv (.k (.int .i64 0))⟩]) (.seq (.seq (.rg [⟨some 9, none, .ld 11 true (.t 2)⟩, ⟨some 10, none, .call 26 [.t 9]⟩, ⟨some 11, none, .bin .neq .leaf (.t 10) (.k (.int .i64 0))⟩, ⟨some 12, none, .mv (.t 11)⟩, ⟨some 13, some (12, false), .mv (.t 1)⟩, ⟨some 14, some (12, false), .buildS 3 1 [.int .i64 0] [(0, .k (.int .i64 1)), (1, .t 13), (2, .k (.int .i64 3652059))] 2⟩, ⟨some 15, some (12, false), .call 37 [.t 14]⟩, ⟨some 16, some (12, false), .un .not (.t 15)⟩, ⟨some 17, none, .pick (.t 12) (.k (.bool true)) (.t 16)⟩]) (.cond (.t 17) (.seq (.rg [⟨some 4, none, .mv (.k (.int .i64 0))⟩, ⟨some 5, none, .mv (.k (.int .i64 0))⟩, ⟨some 6, none, .mv (.k (.int .i64 2))⟩]) .ret) .skip)) (.seq (.rg [⟨some 18, none, .mv (.t 1)⟩, ⟨some 19, none, .fa 4 (.t 2)⟩, ⟨some 20, none, .ld 1 false (.t 19)⟩, ⟨some 21, none, .bin .sub .leaf (.t 18) (.t 20)⟩, ⟨some 22, none, .mm true [.t 21, .k (.int .i64 0)]⟩, ⟨some 4, none, .mv (.t 22)⟩]) (.seq (.seq (.rg [⟨some 23, none, .ld 4 true (.g 0)⟩, ⟨some 24, none, .mv (.k (.int .i64 0))⟩]) (.block 0 (.loop (.seq (.rg [⟨some 25, none, .bin .lss .leaf (.t 24) (.k (.int .i64 4))⟩]) (.seq (.cond (.t 25) .skip (.exit 0)) (.seq (.block 1 (.seq (.rg [⟨some 26, none, .ixA 4 1 false (.t 23) (.t 24)⟩, ⟨some 8, none, .mv (.t 26)⟩]) (.seq (.rg [⟨some 27, none, .mv (.t 4)⟩, ⟨some 28, none, .mv (.t 8)⟩, ⟨some 29, none, .bin .gtr .leaf (.t 27) (.t 28)⟩]) (.cond (.t 29) (.rg [⟨some 30, none, .mv (.t 5)⟩, ⟨some 31, none, .bin .add .leaf (.t 30) (.k (.int .i64 1))⟩, ⟨some 5, none, .mv (.t 31)⟩]) .skip)))) (.rg [⟨some 32, none, .bin .add .leaf (.t 24) (.k (.int .i64 1))⟩, ⟨some 24, none, .mv (.t 32)⟩]))))))) (.seq (.rg [⟨some 33, none, .mv (.t 4)⟩, ⟨some 34, none, .mv (.t 5)⟩, ⟨some 4, none, .mv (.t 33)⟩, ⟨some 5, none, .mv (.t 34)⟩, ⟨some 6, none, .mv (.k (.int .i64 0))⟩]) .ret))))⟩ := by kernel_rfl

theorem op_bd (x : Iv) : 0 ≤ x.op ∧ x.op ≤ 4611686018427387903 := by
  unfold Iv.op
  by_cases h : x.ok
  · rw [if_pos h]; unfold Iv.ok at h; omega
  · rw [if_neg h]; omega

theorem op_ok {x : Iv} (h : x.ok) : x.op = x.am - x.cr - x.pd - x.lo := if_pos h

def ageOf (n : Int) : Int := if n ≤ 0 then 0 else if n ≤ 30 then 1 else if n ≤ 60 then 2 else if n ≤ 90 then 3 else 4
def lateD (x : Iv) (day : Int) : D := if x.ok ∧ 1 ≤ day ∧ day ≤ 3652059 then .tup [.int .i64 (max (day - x.due) 0), .int .i64 (ageOf (max (day - x.due) 0)), .int .i64 0] else .tup [.int .i64 0, .int .i64 0, .int .i64 2]
def cnt (n : Int) : Nat → Int
  | 0 => 0
  | 1 => if 0 < n then 1 else 0
  | 2 => (if 0 < n then 1 else 0) + (if 30 < n then 1 else 0)
  | 3 => (if 0 < n then 1 else 0) + (if 30 < n then 1 else 0) + (if 60 < n then 1 else 0)
  | _ => (if 0 < n then 1 else 0) + (if 30 < n then 1 else 0) + (if 60 < n then 1 else 0) + (if 90 < n then 1 else 0)
theorem cnt_age (n : Int) : cnt n 4 = ageOf n := by
  simp only [cnt, ageOf]
  repeat' split
  all_goals omega

def bound : Nat → Int
  | 0 => 0
  | 1 => 30
  | 2 => 60
  | _ => 90
theorem cnt_up {n : Int} {k : Nat} (hk : k < 4) : (bound k < n → IntKind.wrap .i64 (cnt n k + 1) = cnt n (k + 1)) ∧ (¬ bound k < n → cnt n k = cnt n (k + 1)) := by
  have : k = 0 ∨ k = 1 ∨ k = 2 ∨ k = 3 := by omega
  rcases this with rfl | rfl | rfl | rfl
  all_goals simp only [cnt, bound, wi64]
  all_goals constructor <;> intro h
  all_goals repeat' split
  all_goals omega
theorem day' (n : Int) : Pure 20 [.int .i64 n] (.bool (decide (1 ≤ n ∧ n ≤ 3652059))) := day n

theorem Late (x : Iv) (hx : x.R) (day : Int) (hd : I64 day) : Pure 38 [x.d, .int .i64 day] (lateD x day) := by
  intro S tk
  have hc := Check x hx
  have hw := within [1, day, 3652059] (by simp)
  unfold lateD
  by_cases h1 : x.ok ∧ 1 ≤ day ∧ day ≤ 3652059
  · rw [if_pos h1.1] at hc
    rw [show withinS [1, day, 3652059] = true from by rw [withinS_cons, decide_eq_true h1.2]; rfl] at hw
    rw [if_pos h1]
    have hk := h1.1
    unfold Iv.ok at hk
    have e : IntKind.wrap .i64 (day - x.due) = day - x.due := wi64_id (by unfold I64; omega)
    refine ACalls.fgo c38 rfl fun hS => ?_
    repeat' first | with_reducible refine fzD_ite (fun q => ?_) (fun q => ?_) | ((try conv => whnf); first | refine bs_d (fun q => ?_) (fun q => ?_) | refine bs_n ?_ | refine bs_i (fun q => ?_) (fun q => ?_) | refine ckz (hc) ?_ | refine cq (hc) ?_ | refine ckz (hw) ?_ | refine cq (hw) ?_ | refine eqk rfl ?_ | refine ffin _ rfl rfl hS (Sub.refl _) rfl ⟨?_, rfl, rfl⟩)
    refine floop (α := Nat) rfl rfl hS (fun i => i ≤ 4) (fun i => 4 - i) (fun i => [(24, .d (.int .i64 i)), (23, .d (.agg [.int .i64 0, .int .i64 30, .int .i64 60, .int .i64 90])), (4, .d (.int .i64 (max (day - x.due) 0))), (5, .d (.int .i64 (cnt (max (day - x.due) 0) i)))]) (fun i => []) (fun _ => []) 0 (by omega) (fstep_drop (J' := []) (TK' := []) (Jx := [.arr x.cs]) rfl rfl ⟨Sub.refl _, Sub.refl _, Sub.int (by rw [e]), Sub.refl _, trivial⟩ rfl rfl) ?_
    intro i hi
    have : i = 0 ∨ i = 1 ∨ i = 2 ∨ i = 3 ∨ i = 4 := by omega
    rcases this with rfl | rfl | rfl | rfl | rfl
    · skip
      repeat' first | with_reducible refine fzD_ite (fun q => ?_) (fun q => ?_) | ((try conv => whnf); first | refine bs_d (fun q => ?_) (fun q => ?_) | refine bs_n ?_ | refine bs_i (fun q => ?_) (fun q => ?_) | refine fnext 1 (by omega) (by omega) (fstep_sub ⟨Sub.int rfl, Sub.refl _, Sub.refl _, Sub.int ?_, trivial⟩) | refine eqk rfl ?_ | refine ffin _ rfl rfl hS (Sub.refl _) rfl ⟨?_, rfl, rfl⟩)
      · have hc := cnt_up (n := max (day - x.due) 0) (k := 0) (by omega)
        exact hc.1 ‹_›
      · have hc := cnt_up (n := max (day - x.due) 0) (k := 0) (by omega)
        exact hc.2 ‹_›
    · skip
      repeat' first | with_reducible refine fzD_ite (fun q => ?_) (fun q => ?_) | ((try conv => whnf); first | refine bs_d (fun q => ?_) (fun q => ?_) | refine bs_n ?_ | refine bs_i (fun q => ?_) (fun q => ?_) | refine fnext 2 (by omega) (by omega) (fstep_sub ⟨Sub.int rfl, Sub.refl _, Sub.refl _, Sub.int ?_, trivial⟩) | refine eqk rfl ?_ | refine ffin _ rfl rfl hS (Sub.refl _) rfl ⟨?_, rfl, rfl⟩)
      · have hc := cnt_up (n := max (day - x.due) 0) (k := 1) (by omega)
        exact hc.1 ‹_›
      · have hc := cnt_up (n := max (day - x.due) 0) (k := 1) (by omega)
        exact hc.2 ‹_›
    · skip
      repeat' first | with_reducible refine fzD_ite (fun q => ?_) (fun q => ?_) | ((try conv => whnf); first | refine bs_d (fun q => ?_) (fun q => ?_) | refine bs_n ?_ | refine bs_i (fun q => ?_) (fun q => ?_) | refine fnext 3 (by omega) (by omega) (fstep_sub ⟨Sub.int rfl, Sub.refl _, Sub.refl _, Sub.int ?_, trivial⟩) | refine eqk rfl ?_ | refine ffin _ rfl rfl hS (Sub.refl _) rfl ⟨?_, rfl, rfl⟩)
      · have hc := cnt_up (n := max (day - x.due) 0) (k := 2) (by omega)
        exact hc.1 ‹_›
      · have hc := cnt_up (n := max (day - x.due) 0) (k := 2) (by omega)
        exact hc.2 ‹_›
    · skip
      repeat' first | with_reducible refine fzD_ite (fun q => ?_) (fun q => ?_) | ((try conv => whnf); first | refine bs_d (fun q => ?_) (fun q => ?_) | refine bs_n ?_ | refine bs_i (fun q => ?_) (fun q => ?_) | refine fnext 4 (by omega) (by omega) (fstep_sub ⟨Sub.int rfl, Sub.refl _, Sub.refl _, Sub.int ?_, trivial⟩) | refine eqk rfl ?_ | refine ffin _ rfl rfl hS (Sub.refl _) rfl ⟨?_, rfl, rfl⟩)
      · have hc := cnt_up (n := max (day - x.due) 0) (k := 3) (by omega)
        exact hc.1 ‹_›
      · have hc := cnt_up (n := max (day - x.due) 0) (k := 3) (by omega)
        exact hc.2 ‹_›
    · skip
      repeat' first | with_reducible refine fzD_ite (fun q => ?_) (fun q => ?_) | ((try conv => whnf); first | refine bs_d (fun q => ?_) (fun q => ?_) | refine bs_n ?_ | refine bs_i (fun q => ?_) (fun q => ?_) | refine eqk rfl ?_ | refine ffin _ rfl rfl hS (Sub.refl _) rfl ⟨?_, rfl, rfl⟩)
      show D.tup _ = D.tup _
      rw [cnt_age]
  · rw [if_neg h1]
    by_cases hok : x.ok
    · rw [if_pos hok] at hc
      rw [show withinS [1, day, 3652059] = false from by rw [withinS_cons, decide_eq_false (fun h => h1 ⟨hok, h⟩)]; rfl] at hw
      refine ACalls.fgo c38 rfl fun hS => ?_
      repeat' first | with_reducible refine fzD_ite (fun q => ?_) (fun q => ?_) | ((try conv => whnf); first | refine bs_d (fun q => ?_) (fun q => ?_) | refine bs_n ?_ | refine bs_i (fun q => ?_) (fun q => ?_) | refine ckz (hc) ?_ | refine cq (hc) ?_ | refine ckz (hw) ?_ | refine cq (hw) ?_ | refine eqk rfl ?_ | refine ffin _ rfl rfl hS (Sub.refl _) rfl ⟨?_, rfl, rfl⟩)
      rfl
    · rw [if_neg hok] at hc
      refine ACalls.fgo c38 rfl fun hS => ?_
      repeat' first | with_reducible refine fzD_ite (fun q => ?_) (fun q => ?_) | ((try conv => whnf); first | refine bs_d (fun q => ?_) (fun q => ?_) | refine bs_n ?_ | refine bs_i (fun q => ?_) (fun q => ?_) | refine ckz (hc) ?_ | refine cq (hc) ?_ | refine ckz (hw) ?_ | refine cq (hw) ?_ | refine eqk rfl ?_ | refine ffin _ rfl rfl hS (Sub.refl _) rfl ⟨?_, rfl, rfl⟩)
      rfl
theorem c31 : cFun E0.P 31 = some ⟨19, [(6, none)], .seq (.rg [⟨some 3, none, .box (.t 0) 27⟩, ⟨some 6, none, .mv (.k (.int .i64 0))⟩]) (.seq (.block 0 (.seq (.rg [⟨some 8, none, .ld 11 true (.t 3)⟩, ⟨some 9, none, .call 26 [.t 8]⟩, ⟨some 10, none, .bin .neq .leaf (.t 9) (.k (.int .i64 0))⟩, ⟨some 11, none, .mv (.t 10)⟩, ⟨some 12, some (11, false), .mv (.t 1)⟩, ⟨some 13, some (11, false), .bin .lss .leaf (.t 12) (.k (.int .i64 1))⟩, ⟨some 14, none, .pick (.t 11) (.k (.bool true)) (.t 13)⟩, ⟨some 7, none, .mv (.t 14)⟩]) (.cond (.t 7) (.seq (.rg [⟨some 6, none, .mv (.k (.int .i64 2))⟩]) .ret) (.seq (.rg [⟨some 16, none, .mv (.t 1)⟩, ⟨some 17, none, .mv (.t 2)⟩, ⟨some 18, none, .bin .gtr .leaf (.t 16) (.t 17)⟩, ⟨some 15, none, .mv (.t 18)⟩]) (.cond (.t 15) (.seq (.rg [⟨some 6, none, .mv (.k (.int .i64 9))⟩]) .ret) .skip))))) (.seq (.rg [⟨some 6, none, .mv (.k (.int .i64 0))⟩]) .ret))⟩ := by kernel_rfl
theorem c18 : cFun E0.P 18 = some ⟨24, [(2, some (11, true)), (3, none), (4, none)], .seq (.rg [⟨some 1, none, .box (.t 0) 27⟩, ⟨some 2, none, .alloc [.int .u64 0, .int .u64 0, .int .u64 0, .int .i64 0, .int .i64 0, .int .i64 0, .int .i64 0, .int .i64 0, .int .i64 0, .int .i64 0, .int .i64 0] 27⟩, ⟨some 3, none, .mv (.k (.int .i64 0))⟩, ⟨some 4, none, .mv (.k (.int .i64 0))⟩]) (.seq (.rg [⟨some 6, none, .ld 11 true (.t 1)⟩, ⟨some 7, none, .call 11 [.t 6]⟩, ⟨some 3, none, .mv (.t 7)⟩]) (.seq (.seq (.rg [⟨some 8, none, .ld 11 true (.t 1)⟩, ⟨some 9, none, .mv (.t 3)⟩, ⟨some 10, none, .mm true [.t 9, .k (.int .i64 1)]⟩, ⟨some 11, none, .mv (.t 3)⟩, ⟨some 12, none, .call 31 [.t 8, .t 10, .t 11]⟩, ⟨some 5, none, .mv (.t 12)⟩]) (.seq (.rg [⟨some 13, none, .mv (.t 5)⟩, ⟨some 14, none, .bin .neq .leaf (.t 13) (.k (.int .i64 0))⟩]) (.cond (.t 14) (.seq (.rg [⟨some 15, none, .build [.int .u64 0, .int .u64 0, .int .u64 0, .int .i64 0, .int .i64 0, .int .i64 0, .int .i64 0, .int .i64 0, .int .i64 0, .int .i64 0, .int .i64 0] []⟩, ⟨some 16, none, .mv (.t 5)⟩, ⟨none, none, .st 11 (.t 2) (.t 15)⟩, ⟨some 3, none, .mv (.k (.int .i64 0))⟩, ⟨some 4, none, .mv (.t 16)⟩]) .ret) .skip))) (.seq (.rg [⟨some 17, none, .fa 10 (.t 1)⟩, ⟨some 18, none, .ld 1 false (.t 17)⟩, ⟨some 19, none, .mv (.t 3)⟩, ⟨some 20, none, .bin .add .leaf (.t 18) (.t 19)⟩, ⟨some 21, none, .fa 10 (.t 1)⟩, ⟨none, none, .st 1 (.t 21) (.t 20)⟩]) (.seq (.rg [⟨some 22, none, .ld 11 true (.t 1)⟩, ⟨some 23, none, .mv (.t 3)⟩, ⟨none, none, .st 11 (.t 2) (.t 22)⟩, ⟨some 3, none, .mv (.t 23)⟩, ⟨some 4, none, .mv (.k (.int .i64 0))⟩]) .ret))))⟩ := by kernel_rfl
theorem c21 : cFun E0.P 21 = some ⟨25, [(2, some (11, true)), (3, none), (4, none)], .seq (.rg [⟨some 1, none, .box (.t 0) 27⟩, ⟨some 2, none, .alloc [.int .u64 0, .int .u64 0, .int .u64 0, .int .i64 0, .int .i64 0, .int .i64 0, .int .i64 0, .int .i64 0, .int .i64 0, .int .i64 0, .int .i64 0] 27⟩, ⟨some 3, none, .mv (.k (.int .i64 0))⟩, ⟨some 4, none, .mv (.k (.int .i64 0))⟩]) (.seq (.rg [⟨some 8, none, .ld 11 true (.t 1)⟩, ⟨some 9, none, .call 36 [.t 8]⟩, ⟨some 7, none, .mv (.t 9)⟩, ⟨some 10, none, .ext 0 (.t 7)⟩, ⟨some 11, none, .ext 1 (.t 7)⟩, ⟨some 5, none, .mv (.t 10)⟩, ⟨some 6, none, .mv (.t 11)⟩]) (.seq (.seq (.rg [⟨some 12, none, .mv (.t 6)⟩, ⟨some 13, none, .un .not (.t 12)⟩]) (.cond (.t 13) (.seq (.rg [⟨some 14, none, .build [.int .u64 0, .int .u64 0, .int .u64 0, .int .i64 0, .int .i64 0, .int .i64 0, .int .i64 0, .int .i64 0, .int .i64 0, .int .i64 0, .int .i64 0] []⟩, ⟨none, none, .st 11 (.t 2) (.t 14)⟩, ⟨some 3, none, .mv (.k (.int .i64 0))⟩, ⟨some 4, none, .mv (.k (.int .i64 2))⟩]) .ret) .skip)) (.seq (.seq (.rg [⟨some 15, none, .mv (.t 5)⟩, ⟨some 16, none, .bin .eql .leaf (.t 15) (.k (.int .i64 0))⟩]) (.cond (.t 16) (.seq (.rg [⟨some 17, none, .build [.int .u64 0, .int .u64 0, .int .u64 0, .int .i64 0, .int .i64 0, .int .i64 0, .int .i64 0, .int .i64 0, .int .i64 0, .int .i64 0, .int .i64 0] []⟩, ⟨none, none, .st 11 (.t 2) (.t 17)⟩, ⟨some 3, none, .mv (.k (.int .i64 0))⟩, ⟨some 4, none, .mv (.k (.int .i64 9))⟩]) .ret) .skip)) (.seq (.rg [⟨some 18, none, .fa 10 (.t 1)⟩, ⟨some 19, none, .ld 1 false (.t 18)⟩, ⟨some 20, none, .mv (.t 5)⟩, ⟨some 21, none, .bin .add .leaf (.t 19) (.t 20)⟩, ⟨some 22, none, .fa 10 (.t 1)⟩, ⟨none, none, .st 1 (.t 22) (.t 21)⟩]) (.seq (.rg [⟨some 23, none, .ld 11 true (.t 1)⟩, ⟨some 24, none, .mv (.t 5)⟩, ⟨none, none, .st 11 (.t 2) (.t 23)⟩, ⟨some 3, none, .mv (.t 24)⟩, ⟨some 4, none, .mv (.k (.int .i64 0))⟩]) .ret)))))⟩ := by kernel_rfl

theorem asked (x : Iv) (hx : x.R) (n most : Int) : Pure 31 [x.d, .int .i64 n, .int .i64 most] (.int .i64 (if x.ok ∧ 1 ≤ n then (if n ≤ most then 0 else 9) else 2)) := by
  intro S tk
  have hc := Check x hx
  by_cases hok : x.ok
  · rw [if_pos hok] at hc
    refine ACalls.fgo c31 rfl fun hS => ?_
    repeat' first | with_reducible refine fzD_ite (fun q => ?_) (fun q => ?_) | ((try conv => whnf); first | refine bs_d (fun q => ?_) (fun q => ?_) | refine bs_n ?_ | refine bs_i (fun q => ?_) (fun q => ?_) | refine ckz (hc) ?_ | refine cq (hc) ?_ | refine eqk rfl ?_ | refine ffin _ rfl rfl hS (Sub.refl _) rfl ⟨?_, rfl, rfl⟩)
    all_goals simp only [tupD, D.int.injEq, true_and, hok]
    all_goals first
      | (rw [if_neg (by omega)])
      | (rw [if_pos (by omega), if_neg (by omega)])
      | (rw [if_pos (by omega), if_pos (by omega)])
  · rw [if_neg hok] at hc
    refine ACalls.fgo c31 rfl fun hS => ?_
    repeat' first | with_reducible refine fzD_ite (fun q => ?_) (fun q => ?_) | ((try conv => whnf); first | refine bs_d (fun q => ?_) (fun q => ?_) | refine bs_n ?_ | refine bs_i (fun q => ?_) (fun q => ?_) | refine ckz (hc) ?_ | refine cq (hc) ?_ | refine eqk rfl ?_ | refine ffin _ rfl rfl hS (Sub.refl _) rfl ⟨?_, rfl, rfl⟩)
    all_goals simp only [tupD, D.int.injEq, true_and, hok, false_and, if_false]

def Iv.zero : Iv := ⟨0, 0, 0, 0, 0, 0, 0, 0, 0, 0, 0⟩
def did2 (r : Except Int (Iv × Int)) : D := match r with
  | .ok (x, n) => .tup [x.d, .int .i64 n, .int .i64 0]
  | .error e => .tup [Iv.zero.d, .int .i64 0, .int .i64 e]
def Iv.lose (x : Iv) : Except Int (Iv × Int) :=
  if x.ok then (if x.op = 0 then .error 9 else .ok ({ x with lo := x.lo + x.op }, x.op)) else .error 2

theorem Lose (x : Iv) (hx : x.R) : Pure 18 [x.d] (did2 x.lose) := by
  intro S tk
  have ho := Open x hx
  have hb := op_bd x
  obtain ⟨m, hm⟩ : ∃ m, m = max x.op 1 := ⟨_, rfl⟩
  have hm1 : 1 ≤ m := by omega
  have hc := asked x hx m x.op
  unfold Iv.lose
  by_cases h1 : x.ok
  · rw [if_pos h1]
    rw [if_pos ⟨h1, hm1⟩] at hc
    by_cases h2 : x.op = 0
    · rw [if_pos h2]
      rw [if_neg (by omega)] at hc
      subst hm
      refine ACalls.fgo c18 rfl fun hS => ?_
      repeat' first | with_reducible refine fzD_ite (fun q => ?_) (fun q => ?_) | ((try conv => whnf); first | refine bs_d (fun q => ?_) (fun q => ?_) | refine bs_n ?_ | refine bs_i (fun q => ?_) (fun q => ?_) | refine ckz (ho) ?_ | refine cq (ho) ?_ | refine ckz (hc) ?_ | refine cq (hc) ?_ | refine eqk rfl ?_ | refine ffin _ rfl rfl hS (Sub.refl _) rfl ⟨?_, rfl, rfl⟩)
      rfl
    · rw [if_neg h2]
      rw [if_pos (by omega)] at hc
      subst hm
      refine ACalls.fgo c18 rfl fun hS => ?_
      repeat' first | with_reducible refine fzD_ite (fun q => ?_) (fun q => ?_) | ((try conv => whnf); first | refine bs_d (fun q => ?_) (fun q => ?_) | refine bs_n ?_ | refine bs_i (fun q => ?_) (fun q => ?_) | refine ckz (ho) ?_ | refine cq (ho) ?_ | refine ckz (hc) ?_ | refine cq (hc) ?_ | refine eqk rfl ?_ | refine ffin _ rfl rfl hS (Sub.refl _) rfl ⟨?_, rfl, rfl⟩)
      have e := op_ok h1
      unfold Iv.ok at h1
      rw [wi64_id (by unfold I64; omega)]
      rfl
  · rw [if_neg h1]
    rw [if_neg (fun h => h1 h.1)] at hc
    subst hm
    refine ACalls.fgo c18 rfl fun hS => ?_
    repeat' first | with_reducible refine fzD_ite (fun q => ?_) (fun q => ?_) | ((try conv => whnf); first | refine bs_d (fun q => ?_) (fun q => ?_) | refine bs_n ?_ | refine bs_i (fun q => ?_) (fun q => ?_) | refine ckz (ho) ?_ | refine cq (ho) ?_ | refine ckz (hc) ?_ | refine cq (hc) ?_ | refine eqk rfl ?_ | refine ffin _ rfl rfl hS (Sub.refl _) rfl ⟨?_, rfl, rfl⟩)
    rfl

theorem refLose (x : Iv) (hx : x.R) : Pure 21 [x.d] (did2 x.lose) := by
  intro S tk
  have hc := refOpen x hx
  unfold Iv.lose
  by_cases h1 : x.ok
  · rw [if_pos h1, ← op_ok h1] at hc
    refine ACalls.fgo c21 rfl fun hS => ?_
    repeat' first | with_reducible refine fzD_ite (fun q => ?_) (fun q => ?_) | ((try conv => whnf); first | refine bs_d (fun q => ?_) (fun q => ?_) | refine bs_n ?_ | refine bs_i (fun q => ?_) (fun q => ?_) | refine ckz (hc) ?_ | refine cq (hc) ?_ | refine eqk rfl ?_ | refine ffin _ rfl rfl hS (Sub.refl _) rfl ⟨?_, rfl, rfl⟩)
    · rw [if_pos h1, if_pos ‹_›]; rfl
    · rw [if_pos h1, if_neg ‹_›]
      have ho := op_ok h1
      unfold Iv.ok at h1
      rw [wi64_id (by unfold I64; omega)]
      rfl
  · rw [if_neg h1] at hc
    rw [if_neg h1]
    refine ACalls.fgo c21 rfl fun hS => ?_
    repeat' first | with_reducible refine fzD_ite (fun q => ?_) (fun q => ?_) | ((try conv => whnf); first | refine bs_d (fun q => ?_) (fun q => ?_) | refine bs_n ?_ | refine bs_i (fun q => ?_) (fun q => ?_) | refine ckz (hc) ?_ | refine cq (hc) ?_ | refine eqk rfl ?_ | refine ffin _ rfl rfl hS (Sub.refl _) rfl ⟨?_, rfl, rfl⟩)
    rfl
end Go.KL.YtjjdfplonbgpbaaDoor
