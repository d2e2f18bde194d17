/- Pure steps are sound: one operation each. -/
import Derived.Test.YtjjdfplonbgpbaaDoorKL7
set_option linter.unusedVariables false
set_option linter.unusedSimpArgs false
namespace Go.KL
open Go Go.RowKit

section
variable {E : Env} {B : Nat} {w0 : World} {c : Cfg} {S : List O} {tk : List (Nat × TypeId × Nat)} {w : World} {a : Act} {fr : List (Nat × D)}

theorem map_ok {s : Sem Value} {v : Value} {w' : World} {P : Program} (h : s.run P w = .ok v w') :
    (do pure (Next.value (← s)) : Sem Next).run P w = .ok (.value v) w' := by
  simp only [Sem.run_bind, h, Result.andThen_ok, Sem.run_pure]

theorem V.intInv {v : Value} {k : IntKind} {n : Int} (h : V c v (.int k n)) : v = .int k n := by cases h; rfl
theorem V.boolInv {v : Value} {b : Bool} (h : V c v (.bool b)) : v = .bool b := by cases h; rfl
theorem V.strInv {v : Value} {s : ByteArray} (h : V c v (.str s)) : v = .string s := by cases h; rfl
theorem V.aggInv {v : Value} {l : List D} (h : V c v (.agg l)) : ∃ cs, v = .agg cs ∧ CRel c cs l := by cases h with | agg cs l hn h => exact ⟨cs, rfl, hn, h⟩
theorem V.tupInv {v : Value} {l : List D} (h : V c v (.tup l)) : ∃ cs, v = .tuple cs ∧ CRel c cs l := by cases h with | tup cs l hn h => exact ⟨cs, rfl, hn, h⟩
theorem V.nilpInv {v : Value} (h : V c v .nilp) : v = .pointer none := by cases h; rfl
theorem V.nilslInv {v : Value} (h : V c v .nilsl) : v = .slice none 0 0 := by cases h; rfl
theorem V.nilmapInv {v : Value} (h : V c v .nilmap) : v = .map none := by cases h; rfl
theorem V.nilfnInv {v : Value} (h : V c v .nilfn) : v = .nilFunc := by cases h; rfl
theorem V.mapInv {v : Value} {id : Nat} (h : V c v (.map id)) : v = .map (some (c.μ id)) ∧ id < c.n := by cases h with | map _ h => exact ⟨rfl, h⟩
theorem V.bmInv {v : Value} {f : FuncId} {lf l : List D} (h : V c v (.bm f lf l)) : ∃ fs cs, v = .func (.func f) fs cs ∧ CRel c fs lf ∧ CRel c cs l := by
  cases h with | bm f fs cs lf l hnf hf hn h => exact ⟨fs, cs, rfl, ⟨hnf, hf⟩, hn, h⟩
theorem V.yldInv {v : Value} {id : Nat} (h : V c v (.yld id)) : v = .func (.yield (c.μ id)) #[] #[] ∧ id < c.n ∧ c.ν id = none := by cases h with | yld _ h hν => exact ⟨rfl, h, hν⟩
theorem V.poInv {v : Value} {id off : Nat} (h : V c v (.po id off)) : v = .pointer (some ⟨c.μ id, off, none⟩) ∧ id < c.n ∧ c.ν id = none := by cases h with | po _ _ h hν => exact ⟨rfl, h, hν⟩
theorem V.fnInv {v : Value} {f : FuncId} {l : List D} (h : V c v (.fn f l)) : ∃ cs, v = .func (.func f) #[] cs ∧ CRel c cs l := by cases h with | fn f cs l hn h => exact ⟨cs, rfl, hn, h⟩

theorem pick_run {P : Program} {ca aa ba : Operand} {c' x y : Opd} (hg : GRel E c) (hf : FRel c a.tmps fr) (h1 : cOpd ca = some c') (h2 : cOpd aa = some x) (h3 : cOpd ba = some y) {d : D}
    (hp : pv E fr S (.pick c' x y) = some d) : ∃ v, (do pure (Next.value (if ← asBool (a.eval ca) then a.eval aa else a.eval ba)) : Sem Next).run P w = .ok (.value v) w ∧ V c v d := by
  simp only [pv] at hp
  have hc := eval_V hg hf h1
  split at hp
  · rename_i t ht
    rw [ht] at hc
    have := hc.boolInv
    rw [this]
    obtain rfl := Option.some.inj hp
    cases t
    · exact ⟨a.eval ba, by simp [asBool], by simpa using eval_V hg hf h3⟩
    · exact ⟨a.eval aa, by simp [asBool], by simpa using eval_V hg hf h2⟩
  · cases hp

theorem intBin_run {P : Program} (op : BinOp) (k : IntKind) (x y : Int) (T : TypeId) {d : D} (hs : op ≠ .shl ∧ op ≠ .shr) (h : intD op k x y = some d) :
    ∃ v, (binOp op T (.int k x) (.int k y)).run P w = .ok v w ∧ V c v d := by
  cases op <;> simp only [intD, bitsD, Option.map_some, Option.some.injEq, reduceCtorEq, ne_eq, not_true_eq_false, false_and, and_false] at h hs
  case quo =>
    split at h
    · cases h
    · rename_i hy
      obtain rfl := Option.some.inj h
      exact ⟨_, by simp [binOp, Op.intDiv, hy], .int _ _⟩
  case rem =>
    split at h
    · cases h
    · rename_i hy
      obtain rfl := Option.some.inj h
      exact ⟨_, by simp [binOp, Op.intDiv, hy], .int _ _⟩
  case and => subst h; exact ⟨_, by simp only [binOp, ne_eq, not_true_eq_false, if_false]; rfl, .int _ _⟩
  case or => subst h; exact ⟨_, by simp only [binOp, ne_eq, not_true_eq_false, if_false]; rfl, .int _ _⟩
  case xor => subst h; exact ⟨_, by simp only [binOp, ne_eq, not_true_eq_false, if_false]; rfl, .int _ _⟩
  case andNot => subst h; exact ⟨_, by simp only [binOp, ne_eq, not_true_eq_false, if_false]; rfl, .int _ _⟩
  all_goals subst h
  case add => exact ⟨_, by simp [binOp, Op.intArith], .int _ _⟩
  case sub => exact ⟨_, by simp [binOp, Op.intArith], .int _ _⟩
  case mul => exact ⟨_, by simp [binOp, Op.intArith], .int _ _⟩
  case eql => exact ⟨.bool (decide (x = y)), by by_cases h : x = y <;> simp [binOp, Op.intCmp, h], .bool _⟩
  case neq => exact ⟨.bool (!decide (x = y)), by by_cases h : x = y <;> simp [binOp, Op.intCmp, bne, h], .bool _⟩
  all_goals exact ⟨_, by simp [binOp, Op.intCmp], .bool _⟩

theorem strBin_run {P : Program} (op : BinOp) (x y : ByteArray) (T : TypeId) {d : D} (h : strD op x y = some d) :
    ∃ v, (binOp op T (.string x) (.string y)).run P w = .ok v w ∧ V c v d := by
  have he := decide_bytes x y
  cases op <;> simp only [strD, Option.some.injEq, reduceCtorEq] at h
  case add =>
    split at h
    · rename_i hle
      obtain rfl := Option.some.inj h
      refine ⟨.string (x ++ y), ?_, .str _⟩
      have : ¬ (((x.size + y.size : Nat) : Int) > IntKind.i64.max) := by
        have : IntKind.i64.max = 9223372036854775807 := by decide
        rw [this]; omega
      simp only [binOp, Op.stringOp]
      rw [if_neg this]
      rfl
    · cases h
  all_goals subst h
  all_goals exact ⟨_, by simp only [binOp, Op.stringOp, he, Sem.run_pure], .bool _⟩

theorem isPtr_V {v : Value} {d : D} (h : V c v d) (hp : isPtr d = true) : ∃ ad, v = .pointer (some ad) := by
  cases h <;> simp [isPtr] at hp
  · exact ⟨_, rfl⟩
  · exact ⟨_, rfl⟩
  · exact ⟨_, rfl⟩

theorem eq_ptr1 {P : Program} {T e : TypeId} (h : P.underlying T = some (.pointer e)) (d : Nat) (b : Option Addr) : (Op.equalIn (d + 1) T (.pointer none) (.pointer b)).run P w = .ok b.isNone w := by
  simp [Op.equalIn, run_underlying h]
theorem eq_ptr2 {P : Program} {T e : TypeId} (h : P.underlying T = some (.pointer e)) (d : Nat) (b : Addr) : (Op.equalIn (d + 1) T (.pointer (some b)) (.pointer none)).run P w = .ok false w := by
  simp [Op.equalIn, run_underlying h]
theorem eq_sl1 {P : Program} {T e : TypeId} (h : P.underlying T = some (.slice e)) (d : Nat) : (Op.equalIn (d + 1) T (.slice none 0 0) (.slice none 0 0)).run P w = .ok true w := by
  simp [Op.equalIn, run_underlying h]
theorem eq_sl2 {P : Program} {T e : TypeId} (h : P.underlying T = some (.slice e)) (d : Nat) (a : Addr) (n m : Nat) : (Op.equalIn (d + 1) T (.slice (some a) n m) (.slice none 0 0)).run P w = .ok false w := by
  simp [Op.equalIn, run_underlying h]
theorem V.slCons {c : Cfg} {v : Value} {e : List D} {es : List (List D)} (h : V c v (.sl (e :: es))) : ∃ a n cap, v = .slice (some a) n cap := by
  cases h with
  | sl a cap es sz vs hcap _ _ _ => exact ⟨a, _, cap, rfl⟩
theorem eq_map1 {P : Program} {T k e : TypeId} (h : P.underlying T = some (.map k e)) (d : Nat) (b : Option Nat) : (Op.equalIn (d + 1) T (.map none) (.map b)).run P w = .ok b.isNone w := by
  simp [Op.equalIn, run_underlying h]
theorem eq_map2 {P : Program} {T k e : TypeId} (h : P.underlying T = some (.map k e)) (d : Nat) (b : Nat) : (Op.equalIn (d + 1) T (.map (some b)) (.map none)).run P w = .ok false w := by
  simp [Op.equalIn, run_underlying h]
theorem eq_fn1 {P : Program} {T : TypeId} {x y : Array TypeId} {va : Bool} (h : P.underlying T = some (.func x y va)) (d : Nat) : (Op.equalIn (d + 1) T .nilFunc .nilFunc).run P w = .ok true w := by
  simp [Op.equalIn, run_underlying h]
theorem eq_fn2 {P : Program} {T : TypeId} {x y : Array TypeId} {va : Bool} (h : P.underlying T = some (.func x y va)) (d : Nat) (f g h') : (Op.equalIn (d + 1) T .nilFunc (.func f g h')).run P w = .ok false w := by
  simp [Op.equalIn, run_underlying h]
theorem eq_fn3 {P : Program} {T : TypeId} {x y : Array TypeId} {va : Bool} (h : P.underlying T = some (.func x y va)) (d : Nat) (f g h') : (Op.equalIn (d + 1) T (.func f g h') .nilFunc).run P w = .ok false w := by
  simp [Op.equalIn, run_underlying h]

theorem eqD_run {P : Program} {T : TypeId} {q : EqK} (hq : eqK P T = some q) {v u : Value} {x y : D} {b : Bool} (hv : V c v x) (hu : V c u y) (h : eqD q x y = some b) :
    (Op.equal T v u).run P w = .ok b w ∧ ∀ (ox oy : Operand) op, (eqGuard op T ox oy v u).run P w = .ok () w := by
  have guard : ∀ (ox oy : Operand) op, (match v, u with | .nilIface, .nilIface => False | .agg _, .agg _ => False | _, _ => True) → (eqGuard op T ox oy v u).run P w = .ok () w := by
    intro ox oy op hm
    unfold eqGuard
    cases op <;> simp
    all_goals (cases v <;> cases u <;> simp at hm ⊢)
  unfold eqK at hq
  cases hu' : P.underlying T with
  | none => simp [hu'] at hq
  | some td =>
    rw [hu'] at hq
    cases td <;> simp only [reduceCtorEq, Option.some.injEq] at hq
    case int k => subst hq; simp [eqD] at h
    case string => subst hq; simp [eqD] at h
    case bool =>
      subst hq
      simp only [eqD] at h
      have hrun : (Op.equal T v u).run P w = .ok b w := eqLeaf_run (d := 9999) (T := T) (k := .b) hu' hv hu h
      refine ⟨hrun, fun ox oy op => guard ox oy op ?_⟩
      obtain ⟨p, q, rfl, rfl⟩ : ∃ p q, x = .bool p ∧ y = .bool q := by
        cases x <;> cases y <;> simp only [eqLeaf, reduceCtorEq] at h
        exact ⟨_, _, rfl, rfl⟩
      rw [hv.boolInv, hu.boolInv]
      trivial
    case pointer e =>
      subst hq
      simp only [eqD] at h
      unfold eqPtr at h
      split at h
      · cases h; obtain rfl := hv.nilpInv; obtain rfl := hu.nilpInv
        exact ⟨eq_ptr1 hu' 9999 none, fun ox oy op => guard ox oy op trivial⟩
      · split at h
        · rename_i hpt
          cases h
          obtain ⟨ad, rfl⟩ := isPtr_V hu hpt
          obtain rfl := hv.nilpInv
          exact ⟨eq_ptr1 hu' 9999 (some ad), fun ox oy op => guard ox oy op trivial⟩
        · cases h
      · split at h
        · rename_i hpt
          cases h
          obtain ⟨ad, rfl⟩ := isPtr_V hv hpt
          obtain rfl := hu.nilpInv
          exact ⟨eq_ptr2 hu' 9999 ad, fun ox oy op => guard ox oy op trivial⟩
        · cases h
      · cases h
    case slice e =>
      subst hq
      simp only [eqD] at h
      unfold eqSl at h
      split at h
      · cases h; obtain rfl := hv.nilslInv; obtain rfl := hu.nilslInv
        exact ⟨eq_sl1 hu' 9999, fun ox oy op => guard ox oy op trivial⟩
      · cases h; obtain rfl := hu.nilslInv; obtain ⟨a, n, m, rfl⟩ := hv.slCons
        exact ⟨eq_sl2 hu' 9999 a n m, fun ox oy op => guard ox oy op trivial⟩
      · cases h
    case map k e =>
      subst hq
      simp only [eqD] at h
      unfold eqMap at h
      split at h
      · cases h; obtain rfl := hv.nilmapInv; obtain rfl := hu.nilmapInv
        exact ⟨eq_map1 hu' 9999 none, fun ox oy op => guard ox oy op trivial⟩
      · cases h; obtain rfl := hv.nilmapInv; obtain rfl := hu.mapInv.1
        exact ⟨eq_map1 hu' 9999 (some _), fun ox oy op => guard ox oy op trivial⟩
      · cases h; obtain rfl := hv.mapInv.1; obtain rfl := hu.nilmapInv
        exact ⟨eq_map2 hu' 9999 _, fun ox oy op => guard ox oy op trivial⟩
      · cases h
    case func ps rs va =>
      subst hq
      simp only [eqD] at h
      unfold eqFn at h
      split at h
      · cases h; obtain rfl := hv.nilfnInv; obtain rfl := hu.nilfnInv
        exact ⟨eq_fn1 hu' 9999, fun ox oy op => guard ox oy op trivial⟩
      · cases h; obtain ⟨cs, rfl, _⟩ := hu.fnInv; obtain rfl := hv.nilfnInv
        exact ⟨eq_fn2 hu' 9999 _ _ _, fun ox oy op => guard ox oy op trivial⟩
      · cases h; obtain ⟨cs, rfl, _⟩ := hv.fnInv; obtain rfl := hu.nilfnInv
        exact ⟨eq_fn3 hu' 9999 _ _ _, fun ox oy op => guard ox oy op trivial⟩
      · cases h; obtain ⟨fs, cs, rfl, _⟩ := hu.bmInv; obtain rfl := hv.nilfnInv
        exact ⟨eq_fn2 hu' 9999 _ _ _, fun ox oy op => guard ox oy op trivial⟩
      · cases h; obtain ⟨fs, cs, rfl, _⟩ := hv.bmInv; obtain rfl := hu.nilfnInv
        exact ⟨eq_fn3 hu' 9999 _ _ _, fun ox oy op => guard ox oy op trivial⟩
      · cases h
    case struct fs =>
      split at hq
      · cases hq
      · rename_i hgd
        simp only [Option.map_eq_some_iff] at hq
        obtain ⟨pl, hpl, rfl⟩ := hq
        exact agg_case hu' trivial (fun e => hgd e) hpl hv hu h
    case array n e =>
      split at hq
      · cases hq
      · rename_i hgd
        simp only [Option.map_eq_some_iff] at hq
        obtain ⟨pl, hpl, rfl⟩ := hq
        exact agg_case hu' trivial (fun e => hgd e) hpl hv hu h
where
  agg_case {P : Program} {T : TypeId} {td : TypeDesc} {pl : List (Nat × LK)} (hu' : P.underlying T = some td) (htd : match td with | .struct _ | .array _ _ => True | _ => False) (hgd : ¬ P.eqGuardType P.depth T = true) (hpl : eqPlan P 10000 T 0 = some pl) {v u : Value} {x y : D} {b : Bool}
      (hv : V c v x) (hu : V c u y) (h : eqD (.agg pl) x y = some b) : (Op.equal T v u).run P w = .ok b w ∧ ∀ (ox oy : Operand) op, (eqGuard op T ox oy v u).run P w = .ok () w := by
    obtain ⟨xl, yl, rfl, rfl⟩ : ∃ p q, x = .agg p ∧ y = .agg q := by
      cases x <;> cases y <;> simp only [eqD, eqAgg, reduceCtorEq] at h
      exact ⟨_, _, rfl, rfl⟩
    simp only [eqD, eqAgg] at h
    obtain ⟨xs, rfl, hx⟩ := hv.aggInv
    obtain ⟨ys, rfl, hy⟩ := hu.aggInv
    have hg : P.eqGuardType P.depth T = false := by simpa using hgd
    exact ⟨eqWhole_run (d := 9999) hu' htd hpl hx hy h, fun ox oy op => run_eqGuard_agg w op T ox oy xs ys hg⟩

end
end Go.KL
