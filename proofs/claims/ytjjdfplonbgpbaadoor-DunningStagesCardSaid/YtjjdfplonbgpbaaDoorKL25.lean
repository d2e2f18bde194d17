/- Plain facts for walks: integers that wrap, slices. -/
import Derived.Test.YtjjdfplonbgpbaaDoorKL24
set_option linter.unusedVariables false
set_option linter.unusedSimpArgs false
namespace Go.KL
open Go Go.RowKit

theorem wi64 (n : Int) : IntKind.wrap .i64 n = (n + 9223372036854775808) % 18446744073709551616 - 9223372036854775808 := by
  have e : IntKind.wrap .i64 n = if (9223372036854775808 : Int) ≤ n % 18446744073709551616 then n % 18446744073709551616 - 18446744073709551616 else n % 18446744073709551616 := by
    simp [IntKind.wrap, IntKind.bits, IntKind.signed]
  rw [e]
  split <;> omega
theorem wu64 (n : Int) : IntKind.wrap .u64 n = n % 18446744073709551616 := by
  simp only [IntKind.wrap, IntKind.bits, IntKind.signed, Bool.false_and]
  rfl
theorem wu8 (n : Int) : IntKind.wrap .u8 n = n % 256 := by
  simp only [IntKind.wrap, IntKind.bits, IntKind.signed, Bool.false_and]
  rfl
theorem wu16 (n : Int) : IntKind.wrap .u16 n = n % 65536 := by
  simp only [IntKind.wrap, IntKind.bits, IntKind.signed, Bool.false_and]
  rfl
theorem wu32 (n : Int) : IntKind.wrap .u32 n = n % 4294967296 := by
  simp only [IntKind.wrap, IntKind.bits, IntKind.signed, Bool.false_and]
  rfl
theorem wi32 (n : Int) : IntKind.wrap .i32 n = (n + 2147483648) % 4294967296 - 2147483648 := by
  have e : IntKind.wrap .i32 n = if (2147483648 : Int) ≤ n % 4294967296 then n % 4294967296 - 4294967296 else n % 4294967296 := by
    simp [IntKind.wrap, IntKind.bits, IntKind.signed]
  rw [e]
  split <;> omega

def I64 (n : Int) : Prop := -9223372036854775808 ≤ n ∧ n < 9223372036854775808
def U64 (n : Int) : Prop := 0 ≤ n ∧ n < 18446744073709551616

theorem wi64_id {n : Int} (h : I64 n) : IntKind.wrap .i64 n = n := by rw [wi64]; unfold I64 at h; omega
theorem wu64_id {n : Int} (h : U64 n) : IntKind.wrap .u64 n = n := by rw [wu64]; unfold U64 at h; omega
theorem wi64_range (n : Int) : I64 (IntKind.wrap .i64 n) := by rw [wi64]; unfold I64; omega
theorem wu64_range (n : Int) : U64 (IntKind.wrap .u64 n) := by rw [wu64]; unfold U64; omega

/-- an element's place -/
theorem iaD_sl {sz : Nat} {es : List (List D)} {k : IntKind} {n : Int} {e : List D} (h0 : 0 ≤ n) (he : es[n.toNat]? = some e) (hl : e.length = sz) : iaD sz (.sl es) (.int k n) = some (.pe e 0) := by
  simp only [iaD, if_pos h0, D.rd, he, if_pos hl]

theorem iaD_map {α : Type} {f : α → List D} {sz : Nat} {l : List α} {k : IntKind} {n : Int} {a : α} (h0 : 0 ≤ n) (he : l[n.toNat]? = some a) (hl : (f a).length = sz) : iaD sz (.sl (l.map f)) (.int k n) = some (.pe (f a) 0) :=
  iaD_sl h0 (by rw [List.getElem?_map, he]; rfl) hl

theorem Sub.int {k : IntKind} {a b : Int} (h : a = b) : Sub (.int k a) (.int k b) := h ▸ Sub.refl _
theorem Sub.of {a b : D} (h : a = b) : Sub a b := h ▸ Sub.refl _

/-- slots that are known but for an equation -/
def FrSub (n : Nat) (fr : Fr) : Fr → Prop
  | [] => True
  | (t, d) :: r => Sub ((fget fr t).to n) (d.to n) ∧ FrSub n fr r
theorem FrSub.le {n : Nat} {fr : Fr} : ∀ {fr' : Fr}, FrSub n fr fr' → FrLe (frD n fr) (frD n fr')
  | [], _ => trivial
  | (t, d) :: r, h => ⟨by rw [get_frD]; exact h.1, FrSub.le h.2⟩
theorem fstep_sub {E : Env} {n0 m0 : Nat} {fr : Fr} {J : List O} {TK : Tks} {fr' : Fr} (h : FrSub n0 fr fr') : FStep E n0 m0 fr J TK fr' J TK := ⟨fun S T hn hm hS => Shift.frame h.le⟩

theorem fstep_J {E : Env} {n0 m0 : Nat} {fr : Fr} {J J' : List O} {TK : Tks} {fr' : Fr} (hJ : J = J') (h : FrSub n0 fr fr') : FStep E n0 m0 fr J TK fr' J' TK := hJ ▸ fstep_sub h

theorem fstep_K {E : Env} {n0 m0 : Nat} {fr : Fr} {J : List O} {TK TK' : Tks} {fr' : Fr} (hT : TK = TK') (h : FrSub n0 fr fr') : FStep E n0 m0 fr J TK fr' J TK' := hT ▸ fstep_sub h

/-! ## what mentions only what there is -/

mutual
theorem D.sc_mono {n m n' m' : Nat} (hn : n ≤ n') (hm : m ≤ m') : ∀ {d : D}, d.sc n m = true → d.sc n' m' = true
  | .agg l, h => scL_mono hn hm h
  | .tup l, h => scL_mono hn hm h
  | .fn _ l, h => scL_mono hn hm h
  | .sl es, h => scLL_mono hn hm h
  | .full es, h => scLL_mono hn hm h
  | .gsl es t, h => by
    simp only [D.sc, Bool.and_eq_true, decide_eq_true_eq] at h ⊢
    exact ⟨by omega, scLL_mono hn hm h.2⟩
  | .osl id _ _ _, h => by simp only [D.sc, decide_eq_true_eq] at h ⊢; omega
  | .po id _, h => by simp only [D.sc, decide_eq_true_eq] at h ⊢; omega
  | .map id, h => by simp only [D.sc, decide_eq_true_eq] at h ⊢; omega
  | .vec id _ _, h => by simp only [D.sc, decide_eq_true_eq] at h ⊢; omega
  | .pv id _ _ _, h => by simp only [D.sc, decide_eq_true_eq] at h ⊢; omega
  | .yld id, h => by simp only [D.sc, decide_eq_true_eq] at h ⊢; omega
  | .bm _ f l, h => by
    simp only [D.sc, Bool.and_eq_true] at h ⊢
    exact ⟨scL_mono hn hm h.1, scL_mono hn hm h.2⟩
  | .pe e _, h => scL_mono hn hm h
  | .int _ _, _ => rfl
  | .bool _, _ => rfl
  | .str _, _ => rfl
  | .nilsl, _ => rfl
  | .nilp, _ => rfl
  | .nilfn, _ => rfl
  | .nilmap, _ => rfl
  | .und, _ => rfl
  | .top, _ => rfl
theorem scL_mono {n m n' m' : Nat} (hn : n ≤ n') (hm : m ≤ m') : ∀ {l : List D}, scL n m l = true → scL n' m' l = true
  | [], _ => rfl
  | d :: l, h => by
    simp only [scL, Bool.and_eq_true] at h ⊢
    exact ⟨D.sc_mono hn hm h.1, scL_mono hn hm h.2⟩
theorem scLL_mono {n m n' m' : Nat} (hn : n ≤ n') (hm : m ≤ m') : ∀ {l : List (List D)}, scLL n m l = true → scLL n' m' l = true
  | [], _ => rfl
  | d :: l, h => by
    simp only [scLL, Bool.and_eq_true] at h ⊢
    exact ⟨scL_mono hn hm h.1, scLL_mono hn hm h.2⟩
end

def oSc (n m : Nat) : O → Bool
  | .arr cs => scL n m cs
  | .map _ kv _ => kv.all fun p => p.1.sc n m && p.2.1.sc n m
  | .iter mid _ _ _ => decide (mid < n)
  | .vec es _ _ => scLL n m es
  | .lp _ fr _ _ => frSc n m fr
  | .iter0 | .dead => true
def oScL (n m : Nat) : List O → Bool
  | [] => true
  | o :: r => oSc n m o && oScL n m r

theorem oSc_osc {n m : Nat} {o : O} (h : oSc n m o = true) : osc n m o := by
  cases o with
  | arr cs => exact h
  | map kt kv clk =>
    intro j p hp
    simp only [oSc, List.all_eq_true, Bool.and_eq_true] at h
    exact h p (List.mem_of_getElem? hp)
  | iter mid _ _ _ => simp only [oSc, decide_eq_true_eq] at h; exact h
  | vec es _ _ => exact h
  | lp L fr st pd => exact fun t => frSc_get h t
  | iter0 => trivial
  | dead => trivial

theorem osc_mono {n m n' m' : Nat} (hn : n ≤ n') (hm : m ≤ m') {o : O} (h : osc n m o) : osc n' m' o := by
  cases o with
  | arr cs => exact scL_mono hn hm h
  | map kt kv clk => exact fun j p hp => ⟨D.sc_mono hn hm (h j p hp).1, D.sc_mono hn hm (h j p hp).2⟩
  | iter mid _ _ _ => exact Nat.lt_of_lt_of_le h hn
  | vec es _ _ => exact scLL_mono hn hm h
  | lp L fr st pd => exact fun t => D.sc_mono hn hm (h t)
  | iter0 => trivial
  | dead => trivial

theorem OSc.more {n m : Nat} {S J : List O} {n' m' : Nat} (h : OSc n m S) (hn : n ≤ n') (hm : m ≤ m') (hJ : oScL n' m' J = true) : OSc n' m' (S ++ J) := by
  intro i o ho
  by_cases hi : i < S.length
  · rw [List.getElem?_append_left hi] at ho
    exact osc_mono hn hm (h i o ho)
  · rw [List.getElem?_append_right (by omega)] at ho
    generalize i - S.length = k at ho
    clear hi
    induction J generalizing k with
    | nil => simp at ho
    | cons x r ih =>
      simp only [oScL, Bool.and_eq_true] at hJ
      cases k with
      | succ k => exact ih hJ.2 k (by simpa using ho)
      | zero =>
        simp at ho
        subst ho
        exact oSc_osc hJ.1

theorem OSc.set {n m : Nat} {S : List O} (h : OSc n m S) {id : Nat} {o : O} (ho : osc n m o) : OSc n m (S.set id o) := by
  intro i o' ho'
  by_cases hi : i = id
  · subst hi
    rw [List.getElem?_set] at ho'
    simp only [if_true] at ho'
    split at ho'
    · obtain rfl := Option.some.inj ho'; exact ho
    · cases ho'
  · rw [List.getElem?_set_ne (by omega)] at ho'; exact h i o' ho'

/-- a round leaves nothing but what is kept -/
theorem fstep_drop {E : Env} {n0 m0 : Nat} {fr fr' : Fr} {J J' Jx : List O} {TK TK' TKx : Tks} (hJ : J = J' ++ Jx) (hT : TK = TK' ++ TKx) (h : FrSub n0 fr fr') (hsc : frSc (n0 + J'.length) (m0 + TK'.length) (frD n0 fr') = true) (hoc : oScL (n0 + J'.length) (m0 + TK'.length) J' = true) :
    FStep E n0 m0 fr J TK fr' J' TK' := by
  subst hJ; subst hT
  refine ⟨fun S T hn hm hS => ?_⟩
  have e1 : (S ++ J').length = n0 + J'.length := by rw [List.length_append, hn]
  have e2 : (T ++ TK').length = m0 + TK'.length := by rw [List.length_append, hm]
  have := Shift.drop (E := E) (n0 := n0) (m0 := m0) (fr := frD n0 fr) (fr' := frD n0 fr') (S := S ++ J') (J := Jx) (tk := T ++ TK') (J' := TKx) h.le (by omega) (by omega) (by rw [e1, e2]; exact hsc) (by rw [e1, e2]; exact hS.more (by omega) (by omega) hoc)
  simpa only [sT, List.append_assoc] using this

theorem fdiv_p (a b : Int) (h : 0 ≤ b) : a.fdiv b = a / b := Int.fdiv_eq_ediv_of_nonneg a h

theorem shr63 (a : Int) : a.fdiv (2 ^ (min (Int.toNat 63) (IntKind.bits .i64))) = a / 9223372036854775808 := by
  rw [show (2 : Int) ^ (min (Int.toNat 63) (IntKind.bits .i64)) = 9223372036854775808 from by decide]; exact fdiv_p _ _ (by decide)
theorem shr32 (a : Int) : a.fdiv (2 ^ (min (Int.toNat 32) (IntKind.bits .i64))) = a / 4294967296 := by
  rw [show (2 : Int) ^ (min (Int.toNat 32) (IntKind.bits .i64)) = 4294967296 from by decide]; exact fdiv_p _ _ (by decide)
theorem shl32 : (2 : Int) ^ (min (Int.toNat 32) (IntKind.bits .i64)) = 4294967296 := by decide

/-- a sum in two words is a number of one word when its upper word is the sign's -/
theorem two_words {s : Int} (h1 : -42535295865117307932921825928971026432 ≤ s) (h2 : s ≤ 42535295865117307932921825928971026432) :
    (((s % 18446744073709551616 + 9223372036854775808) % 18446744073709551616 - 9223372036854775808) / 9223372036854775808 % 18446744073709551616 = s / 18446744073709551616 % 18446744073709551616) ↔ I64 s := by
  unfold I64
  by_cases hl : s % 18446744073709551616 < 9223372036854775808
  · have e1 : (s % 18446744073709551616 + 9223372036854775808) % 18446744073709551616 - 9223372036854775808 = s % 18446744073709551616 := by omega
    have e2 : s % 18446744073709551616 / 9223372036854775808 = 0 := by omega
    rw [e1, e2]
    omega
  · have e1 : (s % 18446744073709551616 + 9223372036854775808) % 18446744073709551616 - 9223372036854775808 = s % 18446744073709551616 - 18446744073709551616 := by omega
    have e2 : (s % 18446744073709551616 - 18446744073709551616) / 9223372036854775808 = -1 := by omega
    rw [e1, e2]
    omega

theorem two_step {s x : Int} (hx : I64 x) :
    ((s / 18446744073709551616 % 18446744073709551616 + x / 9223372036854775808 % 18446744073709551616) % 18446744073709551616 + (s % 18446744073709551616 + x % 18446744073709551616 + 0) / 18446744073709551616) % 18446744073709551616 = (s + x) / 18446744073709551616 % 18446744073709551616 := by
  unfold I64 at hx
  have e1 : (s + x) / 18446744073709551616 = s / 18446744073709551616 + (s % 18446744073709551616 + x) / 18446744073709551616 := by omega
  rw [e1]
  have hr : 0 ≤ s % 18446744073709551616 ∧ s % 18446744073709551616 < 18446744073709551616 := by omega
  generalize s / 18446744073709551616 = t
  generalize s % 18446744073709551616 = r at hr
  by_cases h0 : 0 ≤ x
  · have e2 : x / 9223372036854775808 = 0 := by omega
    have e3 : x % 18446744073709551616 = x := by omega
    rw [e2, e3]
    have : (r + x) / 18446744073709551616 = 0 ∨ (r + x) / 18446744073709551616 = 1 := by omega
    rcases this with h | h <;> (rw [Int.add_zero (r + x), h]; omega)
  · have e2 : x / 9223372036854775808 = -1 := by omega
    have e3 : x % 18446744073709551616 = x + 18446744073709551616 := by omega
    have e4 : (r + (x + 18446744073709551616) + 0) / 18446744073709551616 = (r + x) / 18446744073709551616 + 1 := by omega
    rw [e2, e3, e4]
    have : (r + x) / 18446744073709551616 = 0 ∨ (r + x) / 18446744073709551616 = -1 := by omega
    rcases this with h | h <;> (rw [h]; omega)

theorem bs_d {p : Prop} {_ : Decidable p} {A B : Prop} (ht : p → A) (hf : ¬ p → B) : bs (decide p) A B := bs_i (fun h => ht (of_decide_eq_true h)) (fun h => hf (of_decide_eq_false h))
theorem bs_t {b : Bool} {A B : Prop} (hb : b = true) (h : A) : bs b A B := by subst hb; exact h
theorem bs_f {b : Bool} {A B : Prop} (hb : b = false) (h : B) : bs b A B := by subst hb; exact h
theorem bs_n {b : Bool} {A B : Prop} (h : bs b B A) : bs (!b) A B := by cases b <;> exact h
theorem bs_and {a b : Bool} {A B : Prop} (h : bs a (bs b A B) B) : bs (a && b) A B := by cases a <;> exact h
theorem bs_or {a b : Bool} {A B : Prop} (h : bs a A (bs b A B)) : bs (a || b) A B := by cases a <;> exact h
theorem fzD_ite {c : Prop} {_ : Decidable c} {a b : D} {K : D → Prop} (h1 : c → fzD a K) (h2 : ¬ c → fzD b K) : fzD (if c then a else b) K := by
  by_cases h : c
  · rw [if_pos h]; exact h1 h
  · rw [if_neg h]; exact h2 h

theorem and32 (a : Int) : IntKind.wrap .i64 ((BitVec.ofInt (IntKind.bits .i64) a &&& BitVec.ofInt (IntKind.bits .i64) 4294967295).toNat : Int) = a % 4294967296 := by
  have e : (BitVec.ofInt (IntKind.bits .i64) a &&& BitVec.ofInt (IntKind.bits .i64) 4294967295).toNat = (a % 18446744073709551616).toNat % 4294967296 := by
    rw [BitVec.toNat_and, BitVec.toNat_ofInt, BitVec.toNat_ofInt]
    exact Nat.and_two_pow_sub_one_eq_mod _ 32
  rw [e, wi64]
  omega

theorem take_sum {l : List Int} {i : Nat} (h : i < l.length) : (l.take (i + 1)).sum = (l.take i).sum + l[i] := by
  rw [List.take_add_one, List.getElem?_eq_getElem h, Option.toList_some, List.sum_append]
  simp

end Go.KL
