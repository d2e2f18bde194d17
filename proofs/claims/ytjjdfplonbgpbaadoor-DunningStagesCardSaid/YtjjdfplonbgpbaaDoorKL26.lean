/- Functions without a body. -/
import Derived.Test.YtjjdfplonbgpbaaDoorKL25
import Derived.Laws.Externs
set_option linter.unusedVariables false
set_option linter.unusedSimpArgs false
namespace Go.KL
open Go Go.RowKit

theorem VL.cons {c : Cfg} {d : D} {ds : List D} {vs : Array Value} (h : VL c vs (d :: ds)) : ∃ v l, vs = (v :: l).toArray ∧ V c v d ∧ VL c l.toArray ds := by
  obtain ⟨l⟩ := vs
  obtain ⟨h1, h2⟩ := h
  cases l with
  | nil => simp at h1
  | cons v l =>
    refine ⟨v, l, rfl, h2 0 v d rfl rfl, by simpa using h1, fun j v d a b => h2 (j + 1) v d (by simpa using a) (by simpa using b)⟩
theorem VL.nil {c : Cfg} {vs : Array Value} (h : VL c vs []) : vs = #[] := Array.eq_empty_of_size_eq_zero h.1

theorem VL.ints3 {c : Cfg} {k1 k2 k3 : IntKind} {a b d : Int} {vs : Array Value} (h : VL c vs [.int k1 a, .int k2 b, .int k3 d]) : vs = #[.int k1 a, .int k2 b, .int k3 d] := by
  obtain ⟨v1, l1, rfl, h1, h⟩ := h.cons
  obtain ⟨v2, l2, e, h2, h⟩ := h.cons
  obtain ⟨v3, l3, e', h3, h⟩ := h.cons
  have := h.nil
  cases h1; cases h2; cases h3
  simp only [Array.mk.injEq] at e e'
  have e'' : l3 = [] := by simpa using this
  subst e''; subst e'; subst e; rfl

theorem AExt.add64 {E : Env} {f : FuncId} {fn : Func} (hf : E.P.funcs[f]? = some fn) (hname : (fn.name == "runtime.NumGoroutine") = false)
    (hb : fn.body.isNone = true) (hn : Extern.findNext fn = none) (he : Extern.find fn = some add64Entry) {a b c : Int} (ha : U64 a) (hbb : U64 b) (hc : 0 ≤ c ∧ c ≤ 1) :
    AExt E f [.int .u64 a, .int .u64 b, .int .u64 c] (.tup [.int .u64 ((a + b + c) % 18446744073709551616), .int .u64 ((a + b + c) / 18446744073709551616)]) := by
  intro B w0 cf S tk w vs hr hl
  obtain rfl := hl.ints3
  refine ⟨.tuple #[.int .u64 ((a + b + c) % 18446744073709551616), .int .u64 ((a + b + c) / 18446744073709551616)], ?_, ?_⟩
  · rw [run_callFunc_extern hf hname hb hn he, run_add64 a b c ha.1 hbb.1 hc.1 hc.2]
    rfl
  · refine .tup _ _ rfl fun j v d h1 h2 => ?_
    match j, h1, h2 with
    | 0, h1, h2 => simp at h1 h2; subst h1; subst h2; exact .int _ _
    | 1, h1, h2 => simp at h1 h2; subst h1; subst h2; exact .int _ _
    | j + 2, h1, h2 => simp at h1

end Go.KL
