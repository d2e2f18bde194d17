/- notes.entry: lines that are put, one by one -/
import Derived.Test.YtgdidchpignbpaaJr
import Derived.Test.YtgdidchpignbpaaBa
set_option linter.unusedVariables false
set_option linter.unusedSimpArgs false
set_option linter.unusedSectionVars false
set_option maxRecDepth 4000
namespace Go.KL.Ytgdidchpignbpaa
open Go Go.KL Go.RowKit Go.Proofs

theorem c73 : cFun E0.P 73 = some ⟨27, [(10, some (4, true))], .seq (.rg [⟨some 8, none, .box (.t 3) 26⟩, ⟨some 10, none, .alloc [.int .i64 0, .int .u8 0, .int .u64 0, .nilsl] 32⟩]) (.seq (.rg [⟨some 12, none, .mv (.t 0)⟩, ⟨some 13, none, .mv (.t 1)⟩, ⟨some 14, none, .mv (.t 2)⟩, ⟨some 15, none, .build [.int .i64 0, .int .u8 0, .int .u64 0, .nilsl] [(0, 1, .t 12), (1, 1, .t 13), (2, 1, .t 14)]⟩, ⟨some 11, none, .alloc [.int .i64 0, .int .u8 0, .int .u64 0, .nilsl] 32⟩, ⟨none, none, .st 4 (.t 11) (.t 15)⟩]) (.seq (.rg [⟨some 16, none, .mv (.t 4)⟩, ⟨some 17, none, .mkfn 134 [.t 8, .t 11]⟩, ⟨some 18, none, .callv (.t 16) [.t 17]⟩]) (.seq (.rg [⟨some 20, none, .fa 3 (.t 11)⟩, ⟨some 21, none, .ld 1 false (.t 20)⟩, ⟨some 22, none, .call 39 [.t 21]⟩, ⟨some 19, none, .mv (.t 22)⟩, ⟨some 23, none, .ext 0 (.t 19)⟩, ⟨some 24, none, .ext 1 (.t 19)⟩, ⟨some 25, none, .fa 3 (.t 11)⟩, ⟨none, none, .st 1 (.t 25) (.t 23)⟩]) (.seq (.rg [⟨some 26, none, .ld 4 true (.t 11)⟩, ⟨none, none, .st 4 (.t 10) (.t 26)⟩]) .ret))))⟩ := by kernel_rfl
theorem c134 : cFun E0.P 134 = some ⟨25, [], .seq (.rg [⟨some 7, none, .mv (.t 0)⟩, ⟨some 8, none, .fa 1 (.t 2)⟩, ⟨some 9, none, .ld 1 false (.t 8)⟩, ⟨some 10, none, .fa 2 (.t 2)⟩, ⟨some 11, none, .ld 1 false (.t 10)⟩, ⟨some 12, none, .mv (.t 1)⟩, ⟨some 13, none, .build [.int .i64 0, .int .u64 0, .int .u64 0, .int .i64 0] [(0, 1, .t 7), (1, 1, .t 9), (2, 1, .t 11), (3, 1, .t 12)]⟩, ⟨some 6, none, .alloc [.int .i64 0, .int .u64 0, .int .u64 0, .int .i64 0] 88⟩, ⟨none, none, .st 4 (.t 6) (.t 13)⟩]) (.seq (.seq (.rg [⟨some 14, none, .mv (.t 0)⟩, ⟨some 15, none, .bin .eql .leaf (.t 14) (.k (.int .i64 2200))⟩]) (.cond (.t 15) (.rg [⟨some 16, none, .fa 2 (.t 6)⟩, ⟨none, none, .st 1 (.t 16) (.k (.int .u64 0))⟩]) .skip)) (.seq (.rg [⟨some 17, none, .mv (.t 1)⟩, ⟨some 18, none, .bin .neq .leaf (.t 17) (.k (.int .i64 0))⟩]) (.cond (.t 18) (.rg [⟨some 19, none, .fa 3 (.t 3)⟩, ⟨some 20, none, .ld 1 false (.t 19)⟩, ⟨some 21, none, .ld 4 true (.t 6)⟩, ⟨some 22, none, .buildS 1 4 [.int .i64 0, .int .u64 0, .int .u64 0, .int .i64 0] [(0, .t 21)] 88⟩, ⟨some 23, none, .app 30 88 4 32 [.int .i64 0, .int .u64 0, .int .u64 0, .int .i64 0] (.t 20) (.t 22)⟩, ⟨some 24, none, .fa 3 (.t 3)⟩, ⟨none, none, .st 1 (.t 24) (.t 23)⟩]) .skip)))⟩ := by kernel_rfl

/-- an entry under way -/
structure En where
  day : Int
  kind : Int
  src : Int
def En.cell (e : En) (L : List Ln) (t : Nat) : O := .arr [.int .i64 e.day, .int .u8 e.kind, .int .u64 e.src, .gsl (lns L) t]
def stE (e : En) (ce t : Nat) (S0 : List O) (L : List Ln) : List O := S0.set ce (e.cell L t)
def tkE (t : Nat) (T0 : Tks) (L : List Ln) : Tks := T0.set t (L.length, 88, 4)
def putL (x : Iv) (a n : Int) : List Ln := if n = 0 then [] else [⟨a, x.cu, if a = 2200 then 0 else x.co, n⟩]
section
variable {e : En} {ce t : Nat} {S0 : List O} {T0 : Tks} {L : List Ln}
theorem stE_len : (stE e ce t S0 L).length = S0.length := List.length_set ..
theorem tkE_len : (tkE t T0 L).length = T0.length := List.length_set ..
theorem stE_at (h : ce < S0.length) : (stE e ce t S0 L)[ce]? = some (e.cell L t) := List.getElem?_set_self h
theorem stE_ne {i : Nat} (h : ce ≠ i) : (stE e ce t S0 L)[i]? = S0[i]? := List.getElem?_set_ne h
theorem stE_set {L' : List Ln} : (stE e ce t S0 L).set ce (e.cell L' t) = stE e ce t S0 L' := by rw [stE, stE, List.set_set]
theorem tkE_at (h : t < T0.length) : (tkE t T0 L)[t]? = some ((lns L).length, 88, 4) := by rw [lns_len]; exact List.getElem?_set_self h
theorem tkE_set {L' : List Ln} : (tkE t T0 L).set t ((lns L').length, 88, 4) = tkE t T0 L' := by rw [tkE, tkE, List.set_set, lns_len]
theorem stE_osc {n m : Nat} {L' : List Ln} (ht : t < m) (h : OSc n m (stE e ce t S0 L)) : OSc n m (stE e ce t S0 L') := by
  rw [← stE_set (L := L)]
  refine h.set (oSc_osc ?_)
  simp [En.cell, oSc, scL, D.sc, scLL_lns, ht]
end
/-- the put of an entry -/
theorem put (x : Iv) (e : En) (cx ce t : Nat) (S0 : List O) (T0 : Tks) (L : List Ln) (a n : Int) (hcx : S0[cx]? = some (.arr x.cs)) (hce : ce < S0.length) (hne : ce ≠ cx) (ht : t < T0.length) (hl : L.length < 1000) :
    ACalls E0 134 [.int .i64 a, .int .i64 n, .po cx 0, .po ce 0] (stE e ce t S0 L) (tkE t T0 L) (fun r S' tk' => r = .tup [] ∧ S' = stE e ce t S0 (L ++ putL x a n) ∧ tk' = tkE t T0 (L ++ putL x a n)) := by
  refine ACalls.fgo c134 rfl fun hS => ?_
  have hx : (stE e ce t S0 L)[cx]? = some (.arr x.cs) := by rw [stE_ne hne]; exact hcx
  have hc := stE_at (e := e) (t := t) (L := L) hce
  have hS' : OSc (stE e ce t S0 L).length (List.length (tkE t T0 L)) ((stE e ce t S0 L).set ce (e.cell (L ++ putL x a n) t)) := by
    rw [stE_set]; exact stE_osc (by rw [tkE_len]; exact ht) hS
  by_cases hn : n = 0
  · have hp : L ++ putL x a n = L := by rw [putL, if_pos hn, List.append_nil]
    rw [hp]
    by_cases ha : a = 2200
    · skip
      repeat' first | with_reducible refine fzD_ite (fun q => ?_) (fun q => ?_) | ((try conv => whnf); first
        | refine bs_t (decide_eq_true ha) ?_
        | refine bs_t (decide_eq_true hn) ?_
        | refine bs_d (fun q => ?_) (fun q => ?_)
        | refine bs_n ?_
        | refine bs_i (fun q => ?_) (fun q => ?_)
        | refine pK_i (ldO_old hx rfl) ?_
        | refine ffin _ rfl rfl hS (Sub.refl _) rfl ⟨rfl, rfl, rfl⟩
        | refine eqk rfl ?_
        | refine ffin _ rfl rfl hS (Sub.refl _) rfl ⟨?_, rfl, rfl⟩)
    · skip
      repeat' first | with_reducible refine fzD_ite (fun q => ?_) (fun q => ?_) | ((try conv => whnf); first
        | refine bs_f (decide_eq_false ha) ?_
        | refine bs_t (decide_eq_true hn) ?_
        | refine bs_d (fun q => ?_) (fun q => ?_)
        | refine bs_n ?_
        | refine bs_i (fun q => ?_) (fun q => ?_)
        | refine pK_i (ldO_old hx rfl) ?_
        | refine ffin _ rfl rfl hS (Sub.refl _) rfl ⟨rfl, rfl, rfl⟩
        | refine eqk rfl ?_
        | refine ffin _ rfl rfl hS (Sub.refl _) rfl ⟨?_, rfl, rfl⟩)
  · have key : ∀ y : Ln, L ++ putL x a n = L ++ [y] → lns L ++ [y.cs] = lns (L ++ putL x a n) := fun y h => by rw [h]; simp [lns]
    by_cases ha : a = 2200
    · have hk := key ⟨a, x.cu, 0, n⟩ (by rw [putL, if_neg hn, if_pos ha])
      simp only [Ln.cs] at hk
      repeat' first | with_reducible refine fzD_ite (fun q => ?_) (fun q => ?_) | ((try conv => whnf); first
        | refine bs_t (decide_eq_true ha) ?_
        | refine bs_f (decide_eq_false hn) ?_
        | refine bs_d (fun q => ?_) (fun q => ?_)
        | refine bs_n ?_
        | refine bs_i (fun q => ?_) (fun q => ?_)
        | refine pK_i (ldO_old hx rfl) ?_
        | refine pK_i (ldO_old hc rfl) ?_
        | (refine gk_app_old (es := lns L) (src := _) rfl rfl (by rfl) (by rfl) (tkE_at ht) (by simp) (by rw [lns_len]; simp [maxLen]; omega) ?_; rw [hk, tkE_set])
        | (refine gk_stpo_old rfl (by rw [tkE_len, tkE_len]) (by rfl) hc (by rfl) ⟨rfl, rfl, rfl, Nat.le_refl _⟩ ?_)
        | refine ffin _ (by simp [stE]) (by rw [tkE_len, tkE_len]) hS' (Sub.refl _) rfl ⟨rfl, stE_set, rfl⟩
        | refine eqk rfl ?_
        | refine ffin _ rfl rfl hS (Sub.refl _) rfl ⟨?_, rfl, rfl⟩)
    · have hk := key ⟨a, x.cu, x.co, n⟩ (by rw [putL, if_neg hn, if_neg ha])
      simp only [Ln.cs] at hk
      repeat' first | with_reducible refine fzD_ite (fun q => ?_) (fun q => ?_) | ((try conv => whnf); first
        | refine bs_f (decide_eq_false ha) ?_
        | refine bs_f (decide_eq_false hn) ?_
        | refine bs_d (fun q => ?_) (fun q => ?_)
        | refine bs_n ?_
        | refine bs_i (fun q => ?_) (fun q => ?_)
        | refine pK_i (ldO_old hx rfl) ?_
        | refine pK_i (ldO_old hc rfl) ?_
        | (refine gk_app_old (es := lns L) (src := _) rfl rfl (by rfl) (by rfl) (tkE_at ht) (by simp) (by rw [lns_len]; simp [maxLen]; omega) ?_; rw [hk, tkE_set])
        | (refine gk_stpo_old rfl (by rw [tkE_len, tkE_len]) (by rfl) hc (by rfl) ⟨rfl, rfl, rfl, Nat.le_refl _⟩ ?_)
        | refine ffin _ (by simp [stE]) (by rw [tkE_len, tkE_len]) hS' (Sub.refl _) rfl ⟨rfl, stE_set, rfl⟩
        | refine eqk rfl ?_
        | refine ffin _ rfl rfl hS (Sub.refl _) rfl ⟨?_, rfl, rfl⟩)
end Go.KL.Ytgdidchpignbpaa

/- notes: entries of lines that are put, tidied (plain); notes.entry -/
set_option linter.unusedVariables false
set_option linter.unusedSimpArgs false
set_option linter.unusedSectionVars false
set_option maxRecDepth 4000
namespace Go.KL.Ytgdidchpignbpaa
open Go Go.KL Go.RowKit Go.Proofs

theorem c16 : cFun E0.P 16 = some ⟨15, [(2, some (4, true)), (3, none)], .seq (.rg [⟨some 1, none, .box (.t 0) 26⟩, ⟨some 2, none, .alloc [.int .i64 0, .int .u8 0, .int .u64 0, .nilsl] 32⟩, ⟨some 3, none, .mv (.k (.int .i64 0))⟩]) (.seq (.seq (.rg [⟨some 4, none, .ld 11 true (.t 1)⟩, ⟨some 5, none, .call 72 [.t 4]⟩, ⟨some 6, none, .bin .neq .leaf (.t 5) (.k (.int .i64 0))⟩]) (.cond (.t 6) (.seq (.rg [⟨some 7, none, .build [.int .i64 0, .int .u8 0, .int .u64 0, .nilsl] []⟩, ⟨none, none, .st 4 (.t 2) (.t 7)⟩, ⟨some 3, none, .mv (.k (.int .i64 2))⟩]) .ret) .skip)) (.seq (.rg [⟨some 8, none, .fa 3 (.t 1)⟩, ⟨some 9, none, .ld 1 false (.t 8)⟩, ⟨some 10, none, .fa 0 (.t 1)⟩, ⟨some 11, none, .ld 1 false (.t 10)⟩, ⟨some 12, none, .ld 11 true (.t 1)⟩, ⟨some 13, none, .mkfn 74 [.t 1]⟩, ⟨some 14, none, .call 73 [.t 9, .k (.int .u8 1), .t 11, .t 12, .t 13]⟩, ⟨none, none, .st 4 (.t 2) (.t 14)⟩, ⟨some 3, none, .mv (.k (.int .i64 0))⟩]) .ret))⟩ := by kernel_rfl
theorem c74 : cFun E0.P 74 = some ⟨12, [], .seq (.rg [⟨some 3, none, .mv (.t 0)⟩, ⟨some 4, none, .fa 7 (.t 1)⟩, ⟨some 5, none, .ld 1 false (.t 4)⟩, ⟨some 6, none, .callv (.t 3) [.k (.int .i64 1200), .t 5]⟩]) (.rg [⟨some 7, none, .mv (.t 0)⟩, ⟨some 8, none, .fa 7 (.t 1)⟩, ⟨some 9, none, .ld 1 false (.t 8)⟩, ⟨some 10, none, .un .neg (.t 9)⟩, ⟨some 11, none, .callv (.t 7) [.k (.int .i64 2100), .t 10]⟩])⟩ := by kernel_rfl
theorem c21 : cFun E0.P 21 = some ⟨37, [(2, none)], .seq (.rg [⟨some 1, none, .box (.t 0) 24⟩, ⟨some 2, none, .mv (.k (.int .i64 0))⟩]) (.seq (.seq (.rg [⟨some 3, none, .fa 0 (.t 1)⟩, ⟨some 4, none, .ld 1 false (.t 3)⟩, ⟨some 5, none, .bin .eql .leaf (.t 4) (.k (.int .u64 0))⟩, ⟨some 6, none, .mv (.t 5)⟩, ⟨some 7, some (6, false), .fa 1 (.t 1)⟩, ⟨some 8, some (6, false), .ld 1 false (.t 7)⟩, ⟨some 9, some (6, false), .bin .eql .leaf (.t 8) (.k (.int .u64 0))⟩, ⟨some 10, none, .pick (.t 6) (.k (.bool true)) (.t 9)⟩, ⟨some 11, none, .mv (.t 10)⟩, ⟨some 12, some (11, false), .fa 2 (.t 1)⟩, ⟨some 13, some (11, false), .ld 1 false (.t 12)⟩, ⟨some 14, some (11, false), .bin .lss .leaf (.t 13) (.k (.int .i64 1))⟩, ⟨some 15, none, .pick (.t 11) (.k (.bool true)) (.t 14)⟩, ⟨some 16, none, .mv (.t 15)⟩, ⟨some 17, some (16, false), .fa 2 (.t 1)⟩, ⟨some 18, some (16, false), .ld 1 false (.t 17)⟩, ⟨some 19, some (16, false), .bin .gtr .leaf (.t 18) (.k (.int .i64 3652059))⟩, ⟨some 20, none, .pick (.t 16) (.k (.bool true)) (.t 19)⟩, ⟨some 21, none, .mv (.t 20)⟩, ⟨some 22, some (21, false), .fa 3 (.t 1)⟩, ⟨some 23, some (21, false), .ld 1 false (.t 22)⟩, ⟨some 24, some (21, false), .bin .lss .leaf (.t 23) (.k (.int .i64 1))⟩, ⟨some 25, none, .pick (.t 21) (.k (.bool true)) (.t 24)⟩, ⟨some 26, none, .mv (.t 25)⟩, ⟨some 27, some (26, false), .fa 3 (.t 1)⟩, ⟨some 28, some (26, false), .ld 1 false (.t 27)⟩, ⟨some 29, some (26, false), .bin .geq .leaf (.t 28) (.k (.int .i64 4611686018427387904))⟩, ⟨some 30, none, .pick (.t 26) (.k (.bool true)) (.t 29)⟩, ⟨some 31, none, .mv (.t 30)⟩, ⟨some 32, some (31, false), .fa 4 (.t 1)⟩, ⟨some 33, some (31, false), .ld 1 false (.t 32)⟩, ⟨some 34, some (31, false), .len 0 (.t 33)⟩, ⟨some 35, some (31, false), .bin .gtr .leaf (.t 34) (.k (.int .i64 200))⟩, ⟨some 36, none, .pick (.t 31) (.k (.bool true)) (.t 35)⟩]) (.cond (.t 36) (.seq (.rg [⟨some 2, none, .mv (.k (.int .i64 2))⟩]) .ret) .skip)) (.seq (.rg [⟨some 2, none, .mv (.k (.int .i64 0))⟩]) .ret))⟩ := by kernel_rfl
theorem c22 : cFun E0.P 22 = some ⟨33, [(2, none)], .seq (.rg [⟨some 1, none, .box (.t 0) 24⟩, ⟨some 2, none, .mv (.k (.int .i64 0))⟩]) (.seq (.seq (.rg [⟨some 3, none, .fa 0 (.t 1)⟩, ⟨some 4, none, .ld 1 false (.t 3)⟩, ⟨some 5, none, .bin .eql .leaf (.t 4) (.k (.int .u64 0))⟩, ⟨some 6, none, .mv (.t 5)⟩, ⟨some 7, some (6, false), .fa 1 (.t 1)⟩, ⟨some 8, some (6, false), .ld 1 false (.t 7)⟩, ⟨some 9, some (6, false), .bin .eql .leaf (.t 8) (.k (.int .u64 0))⟩, ⟨some 10, none, .pick (.t 6) (.k (.bool true)) (.t 9)⟩, ⟨some 11, none, .mv (.t 10)⟩, ⟨some 12, some (11, false), .fa 2 (.t 1)⟩, ⟨some 13, some (11, false), .ld 1 false (.t 12)⟩, ⟨some 14, some (11, false), .call 79 [.t 13]⟩, ⟨some 15, some (11, false), .un .not (.t 14)⟩, ⟨some 16, none, .pick (.t 11) (.k (.bool true)) (.t 15)⟩, ⟨some 17, none, .mv (.t 16)⟩, ⟨some 18, some (17, false), .fa 3 (.t 1)⟩, ⟨some 19, some (17, false), .ld 1 false (.t 18)⟩, ⟨some 20, some (17, false), .bin .lss .leaf (.t 19) (.k (.int .i64 1))⟩, ⟨some 21, none, .pick (.t 17) (.k (.bool true)) (.t 20)⟩, ⟨some 22, none, .mv (.t 21)⟩, ⟨some 23, some (22, false), .fa 3 (.t 1)⟩, ⟨some 24, some (22, false), .ld 1 false (.t 23)⟩, ⟨some 25, some (22, false), .bin .geq .leaf (.t 24) (.k (.int .i64 4611686018427387904))⟩, ⟨some 26, none, .pick (.t 22) (.k (.bool true)) (.t 25)⟩, ⟨some 27, none, .mv (.t 26)⟩, ⟨some 28, some (27, false), .fa 4 (.t 1)⟩, ⟨some 29, some (27, false), .ld 1 false (.t 28)⟩, ⟨some 30, some (27, false), .len 0 (.t 29)⟩, ⟨some 31, some (27, false), .bin .gtr .leaf (.t 30) (.k (.int .i64 200))⟩, ⟨some 32, none, .pick (.t 27) (.k (.bool true)) (.t 31)⟩]) (.cond (.t 32) (.seq (.rg [⟨some 2, none, .mv (.k (.int .i64 2))⟩]) .ret) .skip)) (.seq (.rg [⟨some 2, none, .mv (.k (.int .i64 0))⟩]) .ret))⟩ := by kernel_rfl

def lineP (x : Iv) (p : Int × Int) : Ln := ⟨p.1, x.cu, if p.1 = 2200 then 0 else x.co, p.2⟩
/-- the lines that are put -/
def PL (x : Iv) (ps : List (Int × Int)) : List Ln := (ps.filter fun p => decide (p.2 ≠ 0)).map (lineP x)
theorem PL_nil (x : Iv) : PL x [] = [] := rfl
theorem PL_snoc (x : Iv) (ps : List (Int × Int)) (a n : Int) : PL x (ps ++ [(a, n)]) = PL x ps ++ putL x a n := by
  rw [PL, PL, List.filter_append, List.map_append, putL]
  by_cases h : n = 0
  · rw [if_pos h, List.filter_cons, if_neg (by simp [h])]; rfl
  · rw [if_neg h, List.filter_cons, if_pos (by simp [h])]; rfl
theorem mem_PL {x : Iv} {ps : List (Int × Int)} {y : Ln} : y ∈ PL x ps ↔ ∃ p ∈ ps, p.2 ≠ 0 ∧ lineP x p = y := by
  simp only [PL, List.mem_map, List.mem_filter, decide_eq_true_eq, and_assoc]
theorem PL_len (x : Iv) (ps : List (Int × Int)) : (PL x ps).length ≤ ps.length := by
  rw [PL, List.length_map]; exact List.length_filter_le ..
theorem PL_nd {x : Iv} {ps : List (Int × Int)} (h : (ps.map (·.1)).Nodup) : ((PL x ps).map Ln.t).Nodup := by
  rw [PL, List.map_map, List.Nodup, List.pairwise_map]
  rw [List.Nodup, List.pairwise_map] at h
  refine (h.sublist (List.filter_sublist ..)).imp fun {a b} hab he => hab ?_
  exact congrArg (·.1) he
theorem PL_st {x : Iv} {ps : List (Int × Int)} (h : ps.Pairwise fun p q => p.1 < q.1) : (PL x ps).Pairwise Ln.lt := by
  rw [PL, List.pairwise_map]
  exact (h.sublist (List.filter_sublist ..)).imp fun {a b} hab => .inl hab
theorem PL_tid {x : Iv} {ps qs : List (Int × Int)} (hn : (ps.map (·.1)).Nodup) (hs : qs.Pairwise fun p q => p.1 < q.1) (hm : ∀ p, p ∈ qs ↔ p ∈ ps) : Tid (PL x ps) (PL x qs) := by
  refine Tid.of_st (PL_nd hn) (fun y hy => ?_) (PL_st hs) fun y => ?_
  · obtain ⟨p, -, h, rfl⟩ := mem_PL.1 hy
    exact h
  · rw [mem_PL, mem_PL]
    exact ⟨fun ⟨p, h1, h2⟩ => ⟨p, (hm p).1 h1, h2⟩, fun ⟨p, h1, h2⟩ => ⟨p, (hm p).2 h1, h2⟩⟩
theorem PL_bad {x : Iv} {ps : List (Int × Int)} (hn : (ps.map (·.1)).Nodup) (hb : ∀ p ∈ ps, 1 ≤ p.1 ∧ p.1 ≤ 9999 ∧ -4611686018427387904 ≤ p.2 ∧ p.2 ≤ 4611686018427387904) : ¬ BadL (PL x ps) := by
  rintro ⟨y, hy, h⟩
  have hs := sumT_own (PL_nd hn) hy
  obtain ⟨p, hp, h0, rfl⟩ := mem_PL.1 hy
  have := hb p hp
  rcases h with h | h
  · exact h ⟨this.1, this.2.1, h0, this.2.2⟩
  · rw [hs] at h; exact h this.2.2
theorem PL_R {x : Iv} (hx : x.R) {ps : List (Int × Int)} (hb : ∀ p ∈ ps, 1 ≤ p.1 ∧ p.1 ≤ 9999 ∧ -4611686018427387904 ≤ p.2 ∧ p.2 ≤ 4611686018427387904) : ∀ y ∈ PL x ps, y.R := by
  intro y hy
  obtain ⟨p, hp, h0, rfl⟩ := mem_PL.1 hy
  have := hb p hp
  refine ⟨?_, hx.cu, ?_, ?_⟩
  · simp only [lineP]; unfold I64; omega
  · simp only [lineP]
    split
    · unfold U64; omega
    · exact hx.co
  · simp only [lineP]; unfold I64; omega

/-- what puts lines into an entry -/
def Puts (x : Iv) (S0 : List O) (fL : FuncId) (caps : List D) (ps : List (Int × Int)) : Prop :=
  ∀ (e : En) (S : List O) (T : Tks) (cx ce t : Nat), (∀ (i : Nat) (o : O), S0[i]? = some o → S[i]? = some o) → S[cx]? = some (.arr x.cs) → S0.length ≤ ce → ce < S.length → ce ≠ cx → t < T.length →
    ACalls E0 fL (.fn 134 [.po cx 0, .po ce 0] :: caps) (stE e ce t S []) (tkE t T []) (fun r S' tk' => r = .tup [] ∧ S' = stE e ce t S (PL x ps) ∧ tk' = tkE t T (PL x ps))
def entD (e : En) (L : List Ln) : D := .agg [.int .i64 e.day, .int .u8 e.kind, .int .u64 e.src, .sl (lns L)]
theorem entry {x : Iv} (hx : x.R) (e : En) {S0 : List O} {fL : FuncId} {caps : List D} (hcl : (∃ c1, caps = [c1]) ∨ ∃ c1 c2 c3, caps = [c1, c2, c3]) {ps qs : List (Int × Int)} (hok : callOK E0.P fL = true) (hP : Puts x S0 fL caps ps) (hl : ps.length < 1000) (hn : (ps.map (·.1)).Nodup) (hs : qs.Pairwise fun p q => p.1 < q.1) (hm : ∀ p, p ∈ qs ↔ p ∈ ps)
    (hb : ∀ p ∈ ps, 1 ≤ p.1 ∧ p.1 ≤ 9999 ∧ -4611686018427387904 ≤ p.2 ∧ p.2 ≤ 4611686018427387904) (tk : Tks) :
    ACalls E0 73 [.int .i64 e.day, .int .u8 e.kind, .int .u64 e.src, x.d, .fn fL caps] S0 tk (fun r S' tk' => r = entD e (PL x qs) ∧ S' = S0 ∧ tk' = tk) := by
  have htid := PL_tid (x := x) hn hs hm
  have hbad := PL_bad (x := x) hn hb
  have hlen := PL_len x ps
  refine ACalls.fgoC c73 rfl [1] rfl fun hS => ?_
  repeat' first | with_reducible refine fzD_ite (fun q => ?_) (fun q => ?_) | ((try conv => whnf); first
    | refine bs_d (fun q => ?_) (fun q => ?_)
    | refine bs_n ?_
    | refine bs_i (fun q => ?_) (fun q => ?_)
    | refine eqk rfl ?_
    | refine ffin _ rfl rfl hS (Sub.refl _) rfl ⟨?_, rfl, rfl⟩)
  refine fcut (α := Unit) rfl (fun _ => True) (fun _ => [(4, .d (.fn fL caps)), (8, .lp 0 0), (10, .lp 1 0), (11, .lp 2 0)]) (fun _ => S0) (fun _ => [.arr x.cs, .arr [.int .i64 0, .int .u8 0, .int .u64 0, .nilsl], e.cell [] tk.length]) (fun _ => [(0, 88, 4)]) (fun _ _ => ⟨rfl, hS⟩) ?_ fun _ _ => ?_
  · skip
    repeat' first | with_reducible refine fzD_ite (fun q => ?_) (fun q => ?_) | ((try conv => whnf); first
      | refine bs_d (fun q => ?_) (fun q => ?_)
      | refine bs_n ?_
      | refine bs_i (fun q => ?_) (fun q => ?_)
      | refine eqk rfl ?_
      | refine ffin _ rfl rfl hS (Sub.refl _) rfl ⟨?_, rfl, rfl⟩)
    exact fcnext (α := Unit) () trivial rfl (fstep_celltok (k := 2) (cs := [.int .i64 e.day, .int .u8 e.kind, .int .u64 e.src, .nilsl]) 88 4 rfl 3 rfl ⟨Sub.refl _, Sub.refl _, Sub.refl _, Sub.refl _, trivial⟩)
  have hcall := hP e (S0 ++ [.arr x.cs, .arr [.int .i64 0, .int .u8 0, .int .u64 0, .nilsl], e.cell [] tk.length]) (tk ++ [(0, 88, 4)]) (S0.length + 0) (S0.length + 2) tk.length (fun i o h => at_old h) (by simp) (by omega) (by simp) (by omega) (by simp)
  have e1 : ∀ L, stE e (S0.length + 2) tk.length (S0 ++ [.arr x.cs, .arr [.int .i64 0, .int .u8 0, .int .u64 0, .nilsl], e.cell [] tk.length]) L = S0 ++ [.arr x.cs, .arr [.int .i64 0, .int .u8 0, .int .u64 0, .nilsl], e.cell L tk.length] := fun L => by
    rw [stE, List.set_append_right _ _ (by omega)]
    simp
  have e2 : ∀ L : List Ln, tkE tk.length (tk ++ [(0, 88, 4)]) L = tk ++ [(L.length, 88, 4)] := fun L => by
    rw [tkE, List.set_append_right _ _ (Nat.le_refl _)]
    simp
  simp only [e1, e2, List.length_nil] at hcall
  have hT := Tidy (PL x ps) (by omega) (PL_R hx hb)
  obtain ⟨c1, rfl⟩ | ⟨c1, c2, c3, rfl⟩ := hcl
  all_goals
    repeat' first | with_reducible refine fzD_ite (fun q => ?_) (fun q => ?_) | ((try conv => whnf); first
      | refine bs_t hok ?_
      | refine bs_d (fun q => ?_) (fun q => ?_)
      | refine bs_n ?_
      | refine bs_i (fun q => ?_) (fun q => ?_)
      | (refine ckG hcall ?_; rintro r S' tk' ⟨rfl, rfl, rfl⟩; refine ⟨S0, _, tk, _, rfl, rfl, rfl, rfl, ?_⟩)
      | (refine ckE rfl rfl hT (.cons (Sub.rd rfl) .nil) ?_; rintro r (⟨h, -⟩ | ⟨-, out, h1, rfl⟩); exact absurd h hbad; rw [h1.uniq htid])
      | refine ffin (entD e (PL x qs)) rfl rfl hS (Sub.refl _) (by simp [entD, D.sc, scL, scLL_lns]) ⟨rfl, rfl, rfl⟩
      | refine eqk rfl ?_
      | refine ffin _ rfl rfl hS (Sub.refl _) rfl ⟨?_, rfl, rfl⟩)
end Go.KL.Ytgdidchpignbpaa

/- notes: Check, Bill, Write -/
set_option linter.unusedVariables false
set_option linter.unusedSimpArgs false
set_option linter.unusedSectionVars false
set_option maxRecDepth 4000
namespace Go.KL.Ytgdidchpignbpaa
open Go Go.KL Go.RowKit Go.Proofs

theorem c18 : cFun E0.P 18 = some ⟨47, [(6, some (11, true)), (7, some (4, true)), (8, none)], .seq (.rg [⟨some 3, none, .box (.t 0) 24⟩, ⟨some 4, none, .box (.t 1) 26⟩, ⟨some 5, none, .box (.t 2) 2⟩, ⟨some 6, none, .alloc [.int .u64 0, .int .u64 0, .int .u64 0, .int .i64 0, .int .i64 0, .int .i64 0, .int .i64 0, .int .i64 0, .int .i64 0, .int .i64 0, .int .i64 0] 26⟩, ⟨some 7, none, .alloc [.int .i64 0, .int .u8 0, .int .u64 0, .nilsl] 32⟩, ⟨some 8, none, .mv (.k (.int .i64 0))⟩]) (.seq (.seq (.rg [⟨some 10, none, .ld 5 true (.t 3)⟩, ⟨some 11, none, .call 21 [.t 10]⟩, ⟨some 12, none, .bin .neq .leaf (.t 11) (.k (.int .i64 0))⟩, ⟨some 13, none, .mv (.t 12)⟩, ⟨some 14, some (13, false), .fa 1 (.t 3)⟩, ⟨some 15, some (13, false), .ld 1 false (.t 14)⟩, ⟨some 16, some (13, false), .fa 0 (.t 4)⟩, ⟨some 17, some (13, false), .ld 1 false (.t 16)⟩, ⟨some 18, some (13, false), .bin .neq .leaf (.t 15) (.t 17)⟩, ⟨some 19, none, .pick (.t 13) (.k (.bool true)) (.t 18)⟩, ⟨some 20, none, .mv (.t 19)⟩, ⟨some 21, some (20, false), .ld 1 false (.t 5)⟩, ⟨some 22, some (20, false), .bin .lss .leaf (.t 21) (.k (.int .i64 0))⟩, ⟨some 23, none, .pick (.t 20) (.k (.bool true)) (.t 22)⟩]) (.cond (.t 23) (.seq (.rg [⟨some 24, none, .build [.int .u64 0, .int .u64 0, .int .u64 0, .int .i64 0, .int .i64 0, .int .i64 0, .int .i64 0, .int .i64 0, .int .i64 0, .int .i64 0, .int .i64 0] []⟩, ⟨some 25, none, .build [.int .i64 0, .int .u8 0, .int .u64 0, .nilsl] []⟩, ⟨none, none, .st 11 (.t 6) (.t 24)⟩, ⟨none, none, .st 4 (.t 7) (.t 25)⟩, ⟨some 8, none, .mv (.k (.int .i64 2))⟩]) .ret) .skip)) (.seq (.rg [⟨some 27, none, .ld 11 true (.t 4)⟩, ⟨some 28, none, .fa 3 (.t 3)⟩, ⟨some 29, none, .ld 1 false (.t 28)⟩, ⟨some 30, none, .call 26 [.t 27, .t 29]⟩, ⟨some 26, none, .mv (.t 30)⟩, ⟨some 31, none, .ext 0 (.t 26)⟩, ⟨some 32, none, .ext 1 (.t 26)⟩, ⟨some 33, none, .ext 2 (.t 26)⟩, ⟨some 9, none, .alloc [.int .i64 0] 2⟩, ⟨none, none, .st 11 (.t 6) (.t 31)⟩, ⟨none, none, .st 1 (.t 9) (.t 32)⟩, ⟨some 8, none, .mv (.t 33)⟩]) (.seq (.seq (.rg [⟨some 34, none, .mv (.t 8)⟩, ⟨some 35, none, .bin .neq .leaf (.t 34) (.k (.int .i64 0))⟩]) (.cond (.t 35) (.seq (.rg [⟨some 36, none, .build [.int .u64 0, .int .u64 0, .int .u64 0, .int .i64 0, .int .i64 0, .int .i64 0, .int .i64 0, .int .i64 0, .int .i64 0, .int .i64 0, .int .i64 0] []⟩, ⟨some 37, none, .build [.int .i64 0, .int .u8 0, .int .u64 0, .nilsl] []⟩, ⟨some 38, none, .mv (.t 8)⟩, ⟨none, none, .st 11 (.t 6) (.t 36)⟩, ⟨none, none, .st 4 (.t 7) (.t 37)⟩, ⟨some 8, none, .mv (.t 38)⟩]) .ret) .skip)) (.seq (.rd [(⟨some 39, none, .ld 11 true (.t 6)⟩, none), (⟨some 40, none, .fa 2 (.t 3)⟩, none), (⟨some 41, none, .ld 1 false (.t 40)⟩, none), (⟨some 42, none, .fa 0 (.t 3)⟩, none), (⟨some 43, none, .ld 1 false (.t 42)⟩, none), (⟨some 44, none, .ld 11 true (.t 4)⟩, none), (⟨some 45, none, .mkfn 77 [.t 3, .t 5, .t 9]⟩, none), (⟨some 46, none, .call 73 [.t 41, .k (.int .u8 2), .t 43, .t 44, .t 45]⟩, none), (⟨none, none, .st 11 (.t 6) (.t 39)⟩, some []), (⟨none, none, .st 4 (.t 7) (.t 46)⟩, some []), (⟨some 8, none, .mv (.k (.int .i64 0))⟩, none)]) .ret))))⟩ := by kernel_rfl
theorem c77 : cFun E0.P 77 = some ⟨29, [], .seq (.rg [⟨some 6, none, .fa 3 (.t 1)⟩, ⟨some 7, none, .ld 1 false (.t 6)⟩, ⟨some 8, none, .ld 1 false (.t 2)⟩, ⟨some 9, none, .mm false [.t 7, .t 8]⟩, ⟨some 5, none, .mv (.t 9)⟩]) (.seq (.rg [⟨some 10, none, .mv (.t 0)⟩, ⟨some 11, none, .mv (.t 5)⟩, ⟨some 12, none, .callv (.t 10) [.k (.int .i64 2100), .t 11]⟩]) (.seq (.rg [⟨some 13, none, .mv (.t 0)⟩, ⟨some 14, none, .fa 3 (.t 1)⟩, ⟨some 15, none, .ld 1 false (.t 14)⟩, ⟨some 16, none, .mv (.t 5)⟩, ⟨some 17, none, .bin .sub .leaf (.t 15) (.t 16)⟩, ⟨some 18, none, .callv (.t 13) [.k (.int .i64 3100), .t 17]⟩]) (.seq (.rg [⟨some 19, none, .mv (.t 0)⟩, ⟨some 20, none, .ld 1 false (.t 3)⟩, ⟨some 21, none, .fa 3 (.t 1)⟩, ⟨some 22, none, .ld 1 false (.t 21)⟩, ⟨some 23, none, .bin .sub .leaf (.t 20) (.t 22)⟩, ⟨some 24, none, .callv (.t 19) [.k (.int .i64 1200), .t 23]⟩]) (.rg [⟨some 25, none, .mv (.t 0)⟩, ⟨some 26, none, .ld 1 false (.t 3)⟩, ⟨some 27, none, .un .neg (.t 26)⟩, ⟨some 28, none, .callv (.t 25) [.k (.int .i64 2200), .t 27]⟩]))))⟩ := by kernel_rfl

theorem putL_len (x : Iv) (a n : Int) : (putL x a n).length ≤ 1 := by unfold putL; split <;> simp
theorem ckPut {x : Iv} {e : En} {cx ce t : Nat} {S : List O} {T : Tks} {n0 m0 : Nat} {K : FD → List O → List O → Tks → Tks → Prop} (L : List Ln) (a n : Int) {n' : Int} (hcx : S[cx]? = some (.arr x.cs)) (hce : ce < S.length) (hne : ce ≠ cx) (ht : t < T.length) (hl : L.length < 1000) (hn : (stE e ce t S L).length = n0) (hm : (tkE t T L).length = m0) (he : n' = n)
    (hk : K (.d (.tup [])) (stE e ce t S (L ++ putL x a n)) [] (tkE t T (L ++ putL x a n)) []) : CK E0 n0 m0 134 [.int .i64 a, .int .i64 n', .po cx 0, .po ce 0] (stE e ce t S L) [] (tkE t T L) [] K := by
  subst he
  refine ckG (P := fun r S' tk' => r = .tup [] ∧ S' = stE e ce t S (L ++ putL x a n') ∧ tk' = tkE t T (L ++ putL x a n')) ?_ ?_
  · rw [List.append_nil, List.append_nil]
    exact put x e cx ce t S T L a n' hcx hce hne ht hl
  · rintro r S' tk' ⟨rfl, rfl, rfl⟩
    exact ⟨_, [], _, [], (List.append_nil _).symm, (List.append_nil _).symm, by rw [← hn, stE_len, stE_len], by rw [← hm, tkE_len, tkE_len], hk⟩
theorem old_stE {e : En} {ce t : Nat} {S S0 : List O} {L : List Ln} {i : Nat} {o : O} (hs : ∀ (i : Nat) (o : O), S0[i]? = some o → S[i]? = some o) (hce : S0.length ≤ ce) (h : S0[i]? = some o) : (stE e ce t S L)[i]? = some o := by
  have : i < S0.length := (List.getElem?_eq_some_iff.1 h).1
  rw [stE_ne (by omega)]; exact hs i o h

def billP (x : Iv) : List (Int × Int) := [(1200, x.am), (2100, -x.am)]
theorem bill1 {x : Iv} (hx : x.R) (hok : x.ok) {S0 : List O} {cb : Nat} (hb : S0[cb]? = some (.arr x.cs)) : Puts x S0 74 [.po cb 0] (billP x) := by
  intro e S T cx ce t hs hcx hce hce2 hne ht
  have hbs := fun L => old_stE (e := e) (t := t) (L := L) hs hce hb
  have hP : PL x (billP x) = [] ++ putL x 1200 x.am ++ putL x 2100 (-x.am) := by
    rw [← PL_nil x, ← PL_snoc, ← PL_snoc]; rfl
  have h1 := putL_len x 1200 x.am
  have hw : IntKind.wrap .i64 (0 - x.am) = -x.am := by rw [wi64_id (by have := hok.2.1; unfold I64; omega)]; omega
  rw [hP]
  refine ACalls.fgo c74 rfl fun hS => ?_
  have hS' : ∀ L, OSc (stE e ce t S []).length (List.length (tkE t T [])) (stE e ce t S L) := fun L => stE_osc (by rw [tkE_len]; exact ht) hS
  repeat' first | with_reducible refine fzD_ite (fun q => ?_) (fun q => ?_) | ((try conv => whnf); first
    | refine bs_t (rfl : callOK E0.P 134 = true) ?_
    | refine bs_d (fun q => ?_) (fun q => ?_)
    | refine bs_n ?_
    | refine bs_i (fun q => ?_) (fun q => ?_)
    | refine pK_i (ldO_old (hbs _) rfl) ?_
    | refine ckPut [] 1200 x.am hcx hce2 hne ht (by simp) (by simp only [stE_len]) (by simp only [tkE_len]) rfl ?_
    | refine ckPut ([] ++ putL x 1200 x.am) 2100 (-x.am) hcx hce2 hne ht (by rw [List.length_append, List.length_nil]; omega) (by simp only [stE_len]) (by simp only [tkE_len]) hw ?_
    | refine ffin (.tup []) (by simp only [stE_len]) (by simp only [tkE_len]) (hS' _) (Sub.refl _) rfl ⟨rfl, rfl, rfl⟩
    | refine eqk rfl ?_
    | refine ffin _ rfl rfl hS (Sub.refl _) rfl ⟨?_, rfl, rfl⟩)
def zeroE : D := .agg [.int .i64 0, .int .u8 0, .int .u64 0, .nilsl]
def billD (x : Iv) : D := if x.ok then .tup [entD ⟨x.day, 1, x.id⟩ (PL x (billP x)), .int .i64 0] else .tup [zeroE, .int .i64 2]
theorem bill_in {x : Iv} (hok : x.ok) : ∀ p ∈ billP x, 1 ≤ p.1 ∧ p.1 ≤ 9999 ∧ -4611686018427387904 ≤ p.2 ∧ p.2 ≤ 4611686018427387904 := by
  have := hok.2.1
  intro p hp
  simp only [billP, List.mem_cons, List.not_mem_nil, or_false] at hp
  rcases hp with rfl | rfl <;> (simp only; omega)
theorem Bill (x : Iv) (hx : x.R) : Pure 16 [x.d] (billD x) := by
  intro S tk
  have hc := Check x hx
  by_cases hok : x.ok
  · rw [if_pos hok] at hc
    rw [billD, if_pos hok]
    refine ACalls.fgo c16 rfl fun hS => ?_
    have he := fun tk => entry hx ⟨x.day, 1, x.id⟩ (S0 := S ++ [.arr x.cs, .arr [.int .i64 0, .int .u8 0, .int .u64 0, .nilsl]]) (fL := 74) (caps := [.po (S.length + 0) 0]) (.inl ⟨_, rfl⟩) rfl (bill1 hx hok (at_own rfl rfl)) (by simp [billP]) (by simp [billP]) (qs := billP x) (by simp [billP]) (fun _ => Iff.rfl) (bill_in hok) tk
    repeat' first | with_reducible refine fzD_ite (fun q => ?_) (fun q => ?_) | ((try conv => whnf); first
      | refine bs_d (fun q => ?_) (fun q => ?_)
      | refine bs_n ?_
      | refine bs_i (fun q => ?_) (fun q => ?_)
      | refine ck (by first | rfl | simp) rfl (hc) ?_
      | refine cq (hc) ?_
      | refine ckA (d := entD ⟨x.day, 1, x.id⟩ (PL x (billP x))) rfl rfl (he _) ?_
      | refine ffin _ rfl rfl hS (Sub.refl _) (by simp [tupD, D.sc, scL, scLL_lns]) ⟨rfl, rfl, rfl⟩
      | refine eqk rfl ?_
      | refine ffin _ rfl rfl hS (Sub.refl _) rfl ⟨?_, rfl, rfl⟩)
  · rw [if_neg hok] at hc
    rw [billD, if_neg hok]
    refine ACalls.fgo c16 rfl fun hS => ?_
    repeat' first | with_reducible refine fzD_ite (fun q => ?_) (fun q => ?_) | ((try conv => whnf); first
      | refine bs_d (fun q => ?_) (fun q => ?_)
      | refine bs_n ?_
      | refine bs_i (fun q => ?_) (fun q => ?_)
      | refine ck (by first | rfl | simp) rfl (hc) ?_
      | refine cq (hc) ?_
      | refine eqk rfl ?_
      | refine ffin _ rfl rfl hS (Sub.refl _) rfl ⟨?_, rfl, rfl⟩)
    rfl
end Go.KL.Ytgdidchpignbpaa

/- notes: what a note may be -/
set_option linter.unusedVariables false
set_option linter.unusedSimpArgs false
set_option linter.unusedSectionVars false
set_option maxRecDepth 4000
namespace Go.KL.Ytgdidchpignbpaa
open Go Go.KL Go.RowKit Go.Proofs

/-- a note -/
structure Nn where
  id : Int
  inv : Int
  day : Int
  am : Int
  rs : ByteArray
def Nn.cs (n : Nn) : List D := [.int .u64 n.id, .int .u64 n.inv, .int .i64 n.day, .int .i64 n.am, .str n.rs]
def Nn.d (n : Nn) : D := .agg n.cs
structure Nn.R (n : Nn) : Prop where
  id : U64 n.id
  inv : U64 n.inv
  day : I64 n.day
  am : I64 n.am
  rs : n.rs.size < 9223372036854775808
def Nn.ok (n : Nn) : Prop := n.id ≠ 0 ∧ n.inv ≠ 0 ∧ 1 ≤ n.day ∧ n.day ≤ 3652059 ∧ 1 ≤ n.am ∧ n.am < 4611686018427387904 ∧ (n.rs.size : Int) ≤ 200
instance (n : Nn) : Decidable n.ok := by unfold Nn.ok; infer_instance
theorem noteCheck (n : Nn) : Pure 21 [n.d] (.int .i64 (if n.ok then 0 else 2)) := by
  intro S tk
  by_cases h : n.ok
  · rw [if_pos h]
    unfold Nn.ok at h
    refine ACalls.fgo c21 rfl fun hS => ?_
    repeat' first | with_reducible refine fzD_ite (fun q => ?_) (fun q => ?_) | ((try conv => whnf); first
      | refine bs_d (fun q => ?_) (fun q => ?_)
      | refine bs_n ?_
      | refine bs_i (fun q => ?_) (fun q => ?_)
      | refine eqk rfl ?_
      | refine ffin _ rfl rfl hS (Sub.refl _) rfl ⟨?_, rfl, rfl⟩)
    all_goals first | rfl | (exfalso; omega)
  · rw [if_neg h]
    unfold Nn.ok at h
    refine ACalls.fgo c21 rfl fun hS => ?_
    repeat' first | with_reducible refine fzD_ite (fun q => ?_) (fun q => ?_) | ((try conv => whnf); first
      | refine bs_d (fun q => ?_) (fun q => ?_)
      | refine bs_n ?_
      | refine bs_i (fun q => ?_) (fun q => ?_)
      | refine eqk rfl ?_
      | refine ffin _ rfl rfl hS (Sub.refl _) rfl ⟨?_, rfl, rfl⟩)
    all_goals first | rfl | (exfalso; omega)
theorem refNoteCheck (n : Nn) : Pure 22 [n.d] (.int .i64 (if n.ok then 0 else 2)) := by
  intro S tk
  have hd := day n.day
  by_cases h : n.ok
  · rw [if_pos h]
    unfold Nn.ok at h
    rw [decide_eq_true ⟨h.2.2.1, h.2.2.2.1⟩] at hd
    refine ACalls.fgo c22 rfl fun hS => ?_
    repeat' first | with_reducible refine fzD_ite (fun q => ?_) (fun q => ?_) | ((try conv => whnf); first
      | refine bs_d (fun q => ?_) (fun q => ?_)
      | refine bs_n ?_
      | refine bs_i (fun q => ?_) (fun q => ?_)
      | refine ck (by first | rfl | simp) rfl (hd) ?_
      | refine cq (hd) ?_
      | refine eqk rfl ?_
      | refine ffin _ rfl rfl hS (Sub.refl _) rfl ⟨?_, rfl, rfl⟩)
    all_goals first | rfl | (exfalso; omega)
  · rw [if_neg h]
    unfold Nn.ok at h
    refine ACalls.fgo c22 rfl fun hS => ?_
    repeat' first | with_reducible refine fzD_ite (fun q => ?_) (fun q => ?_) | ((try conv => whnf); first
      | refine bs_d (fun q => ?_) (fun q => ?_)
      | refine bs_n ?_
      | refine bs_i (fun q => ?_) (fun q => ?_)
      | refine ck (by first | rfl | simp) rfl (hd) ?_
      | refine cq (hd) ?_
      | refine eqk rfl ?_
      | refine ffin _ rfl rfl hS (Sub.refl _) rfl ⟨?_, rfl, rfl⟩)
    all_goals first | rfl | (exfalso; omega)

end Go.KL.Ytgdidchpignbpaa

/- notes: Write -/
set_option linter.unusedVariables false
set_option linter.unusedSimpArgs false
set_option linter.unusedSectionVars false
set_option maxRecDepth 4000
namespace Go.KL.Ytgdidchpignbpaa
open Go Go.KL Go.RowKit Go.Proofs

def writeP (n : Nn) (d over : Int) : List (Int × Int) := [(2100, d), (3100, n.am - d), (1200, over - n.am), (2200, -over)]
/-- the walk: whatever puts -/
theorem write1_in {x : Iv} {n : Nn} {d df over : Int} (hdm : min n.am df = d) (w1 : IntKind.wrap .i64 (n.am - d) = n.am - d) (w2 : IntKind.wrap .i64 (over - n.am) = over - n.am) (w3 : IntKind.wrap .i64 (0 - over) = -over) {cn cd co : Nat} {fP : FuncId} {ps : List D} (p1 p2 : D) (hps : ps = [p1, p2]) (hok : callOK E0.P fP = true) {st : List Ln → List O} {tf : List Ln → Tks}
    (hbn : ∀ L, (st L)[cn]? = some (.arr n.cs)) (hbd : ∀ L, (st L)[cd]? = some (.arr [.int .i64 df])) (hbo : ∀ L, (st L)[co]? = some (.arr [.int .i64 over]))
    (hput : ∀ (L : List Ln) (a n' n : Int) (K : FD → List O → List O → Tks → Tks → Prop), L.length < 1000 → n' = n → K (.d (.tup [])) (st (L ++ putL x a n)) [] (tf (L ++ putL x a n)) [] →
      CK E0 (st []).length (tf []).length fP [.int .i64 a, .int .i64 n', p1, p2] (st L) [] (tf L) [] K)
    (hS' : ∀ L, OSc (st []).length (List.length (tf [])) (st []) → OSc (st []).length (List.length (tf [])) (st L))
    (hle : ∀ L, (st L).length = (st []).length) (hlt : ∀ L, (tf L).length = (tf []).length) :
    ACalls E0 77 [.fn fP ps, .po cn 0, .po cd 0, .po co 0] (st []) (tf []) (fun r S' tk' => r = .tup [] ∧ S' = st ([] ++ putL x 2100 d ++ putL x 3100 (n.am - d) ++ putL x 1200 (over - n.am) ++ putL x 2200 (-over)) ∧ tk' = tf ([] ++ putL x 2100 d ++ putL x 3100 (n.am - d) ++ putL x 1200 (over - n.am) ++ putL x 2200 (-over))) := by
  subst hps
  have h1 := putL_len x 2100 d
  have h2 := putL_len x 3100 (n.am - d)
  have h3 := putL_len x 1200 (over - n.am)
  have hln : ∀ L, ldO (st L ++ []) cn 3 1 false = some (.int .i64 n.am) := fun L => ldO_old (hbn L) rfl
  have hld : ∀ L, ldO (st L ++ []) cd 0 1 false = some (.int .i64 df) := fun L => ldO_old (hbd L) rfl
  have hlo : ∀ L, ldO (st L ++ []) co 0 1 false = some (.int .i64 over) := fun L => ldO_old (hbo L) rfl
  refine ACalls.fgoC c77 rfl [0, 1, 2, 3] rfl fun hS => ?_
  repeat' first | with_reducible refine fzD_ite (fun q => ?_) (fun q => ?_) | ((try conv => whnf); first
    | refine bs_d (fun q => ?_) (fun q => ?_)
    | refine bs_n ?_
    | refine bs_i (fun q => ?_) (fun q => ?_)
    | refine eqk rfl ?_
    | refine ffin _ rfl rfl hS (Sub.refl _) rfl ⟨?_, rfl, rfl⟩)
  refine fcut (α := Unit) rfl (fun _ => True) (fun _ => [(0, .d (.fn fP [p1, p2])), (1, .d (.po cn 0)), (3, .d (.po co 0)), (5, .d (.int .i64 d))]) (fun _ => st []) (fun _ => []) (fun _ => []) (fun _ _ => ⟨rfl, hS⟩) ?_ fun _ _ => ?_
  · conv => whnf
    refine pK_i (hln _) ?_
    conv => whnf
    refine pK_i (hld _) ?_
    conv => whnf
    exact fcnext (α := Unit) () trivial rfl (fstep_sub ⟨Sub.refl _, Sub.refl _, Sub.refl _, Sub.int hdm, trivial⟩)
  refine fcutT (α := Unit) (fun _ => True) (fun _ => [(0, .d (.fn fP [p1, p2])), (1, .d (.po cn 0)), (3, .d (.po co 0)), (5, .d (.int .i64 d))]) (fun _ => st ([] ++ putL x 2100 d)) (fun _ => []) (fun _ => tf ([] ++ putL x 2100 d)) (fun _ => []) (fun _ _ => ⟨hle _, hlt _, hS' _ hS⟩) ?_ fun _ _ => ?_
  · skip
    repeat' first | with_reducible refine fzD_ite (fun q => ?_) (fun q => ?_) | ((try conv => whnf); first
      | refine bs_t hok ?_
      | refine bs_d (fun q => ?_) (fun q => ?_)
      | refine bs_n ?_
      | refine bs_i (fun q => ?_) (fun q => ?_)
      | refine pK_i (hln _) ?_
      | refine pK_i (hlo _) ?_
      | refine hput [] 2100 _ d _ (by simp) rfl ?_
      | refine eqk rfl ?_
      | refine ffin _ rfl rfl hS (Sub.refl _) rfl ⟨?_, rfl, rfl⟩)
    conv => whnf
    exact fcnextT (α := Unit) () trivial rfl rfl (fstep_sub ⟨Sub.refl _, Sub.refl _, Sub.refl _, Sub.refl _, trivial⟩)
  refine fcutT (α := Unit) (fun _ => True) (fun _ => [(0, .d (.fn fP [p1, p2])), (1, .d (.po cn 0)), (3, .d (.po co 0)), (5, .d (.int .i64 d))]) (fun _ => st ([] ++ putL x 2100 d ++ putL x 3100 (n.am - d))) (fun _ => []) (fun _ => tf ([] ++ putL x 2100 d ++ putL x 3100 (n.am - d))) (fun _ => []) (fun _ _ => ⟨hle _, hlt _, hS' _ hS⟩) ?_ fun _ _ => ?_
  · skip
    repeat' first | with_reducible refine fzD_ite (fun q => ?_) (fun q => ?_) | ((try conv => whnf); first
      | refine bs_t hok ?_
      | refine bs_d (fun q => ?_) (fun q => ?_)
      | refine bs_n ?_
      | refine bs_i (fun q => ?_) (fun q => ?_)
      | refine pK_i (hln _) ?_
      | refine pK_i (hlo _) ?_
      | refine hput _ 3100 _ (n.am - d) _ (by rw [List.length_append, List.length_nil]; omega) w1 ?_
      | refine eqk rfl ?_
      | refine ffin _ rfl rfl hS (Sub.refl _) rfl ⟨?_, rfl, rfl⟩)
    conv => whnf
    exact fcnextT (α := Unit) () trivial rfl rfl (fstep_sub ⟨Sub.refl _, Sub.refl _, Sub.refl _, Sub.refl _, trivial⟩)
  refine fcutT (α := Unit) (fun _ => True) (fun _ => [(0, .d (.fn fP [p1, p2])), (1, .d (.po cn 0)), (3, .d (.po co 0)), (5, .d (.int .i64 d))]) (fun _ => st ([] ++ putL x 2100 d ++ putL x 3100 (n.am - d) ++ putL x 1200 (over - n.am))) (fun _ => []) (fun _ => tf ([] ++ putL x 2100 d ++ putL x 3100 (n.am - d) ++ putL x 1200 (over - n.am))) (fun _ => []) (fun _ _ => ⟨hle _, hlt _, hS' _ hS⟩) ?_ fun _ _ => ?_
  · skip
    repeat' first | with_reducible refine fzD_ite (fun q => ?_) (fun q => ?_) | ((try conv => whnf); first
      | refine bs_t hok ?_
      | refine bs_d (fun q => ?_) (fun q => ?_)
      | refine bs_n ?_
      | refine bs_i (fun q => ?_) (fun q => ?_)
      | refine pK_i (hln _) ?_
      | refine pK_i (hlo _) ?_
      | refine hput _ 1200 _ (over - n.am) _ (by rw [List.length_append, List.length_append, List.length_nil]; omega) w2 ?_
      | refine eqk rfl ?_
      | refine ffin _ rfl rfl hS (Sub.refl _) rfl ⟨?_, rfl, rfl⟩)
    conv => whnf
    exact fcnextT (α := Unit) () trivial rfl rfl (fstep_sub ⟨Sub.refl _, Sub.refl _, Sub.refl _, Sub.refl _, trivial⟩)
  repeat' first | with_reducible refine fzD_ite (fun q => ?_) (fun q => ?_) | ((try conv => whnf); first
    | refine bs_t hok ?_
    | refine bs_d (fun q => ?_) (fun q => ?_)
    | refine bs_n ?_
    | refine bs_i (fun q => ?_) (fun q => ?_)
    | refine pK_i (hln _) ?_
    | refine pK_i (hlo _) ?_
    | refine hput _ 2200 _ (-over) _ (by rw [List.length_append, List.length_append, List.length_append, List.length_nil]; omega) w3 ?_
    | refine ffin (.tup []) (hle _) (hlt _) (hS' _ hS) (Sub.refl _) rfl ⟨rfl, rfl, rfl⟩
    | refine eqk rfl ?_
    | refine ffin _ rfl rfl hS (Sub.refl _) rfl ⟨?_, rfl, rfl⟩)
theorem write1 {x : Iv} {n : Nn} (hx : x.R) (hn1 : 1 ≤ n.am) (hn2 : n.am < 4611686018427387904) {df over : Int} (hdf : 0 ≤ df) (hov : 0 ≤ over) (hov2 : over ≤ n.am) {S0 : List O} {cn cd co : Nat} (hcn : S0[cn]? = some (.arr n.cs)) (hcd : S0[cd]? = some (.arr [.int .i64 df])) (hco : S0[co]? = some (.arr [.int .i64 over])) :
    Puts x S0 77 [.po cn 0, .po cd 0, .po co 0] (writeP n (min n.am df) over) := by
  intro e S T cx ce t hs hcx hce hce2 hne ht
  obtain ⟨d, hdm⟩ : ∃ d, min n.am df = d := ⟨_, rfl⟩
  have hd0 : 0 ≤ d ∧ d ≤ n.am := by omega
  rw [hdm]
  have hP : PL x (writeP n d over) = [] ++ putL x 2100 d ++ putL x 3100 (n.am - d) ++ putL x 1200 (over - n.am) ++ putL x 2200 (-over) := by
    rw [show writeP n d over = [] ++ [(2100, d)] ++ [(3100, n.am - d)] ++ [(1200, over - n.am)] ++ [(2200, -over)] from by simp only [writeP, List.nil_append, List.cons_append], PL_snoc, PL_snoc, PL_snoc, PL_snoc, PL_nil]
  rw [hP]
  exact write1_in (st := stE e ce t S) (tf := tkE t T) hdm (wi64_id (by unfold I64; omega)) (wi64_id (by unfold I64; omega)) (by rw [wi64_id (by unfold I64; omega)]; omega) _ _ rfl (by kernel_rfl)
    (fun L => old_stE hs hce hcn) (fun L => old_stE hs hce hcd) (fun L => old_stE hs hce hco)
    (fun L a n' n K h1 h2 hk => ckPut L a n hcx hce2 hne ht h1 (by simp only [stE_len]) (by simp only [tkE_len]) h2 hk)
    (fun L hS => stE_osc (by rw [tkE_len]; exact ht) hS) (fun L => by simp only [stE_len]) (fun L => by simp only [tkE_len])
end Go.KL.Ytgdidchpignbpaa

/- notes.Write -/
set_option linter.unusedVariables false
set_option linter.unusedSimpArgs false
set_option linter.unusedSectionVars false
set_option maxRecDepth 4000
namespace Go.KL.Ytgdidchpignbpaa
open Go Go.KL Go.RowKit Go.Proofs

def writeQ (n : Nn) (d over : Int) : List (Int × Int) := [(1200, over - n.am), (2100, d), (2200, -over), (3100, n.am - d)]
/-- may a note be written? -/
def wok (n : Nn) (x : Iv) (df : Int) : Prop := n.ok ∧ n.inv = x.id ∧ 0 ≤ df
instance (n : Nn) (x : Iv) (df : Int) : Decidable (wok n x df) := by unfold wok; infer_instance
def writeD (n : Nn) (x : Iv) (df : Int) : D :=
  if wok n x df then match x.credit n.am with
    | .ok (now, over) => .tup [now.d, entD ⟨n.day, 2, n.id⟩ (PL x (writeQ n (min n.am df) over)), .int .i64 0]
    | .error e => .tup [Iv.zero.d, zeroE, .int .i64 e]
  else .tup [Iv.zero.d, zeroE, .int .i64 2]
theorem credit_ok {x : Iv} {n : Int} {now : Iv} {over : Int} (h : x.credit n = .ok (now, over)) : x.ok ∧ 0 ≤ over ∧ over ≤ n := by
  unfold Iv.credit at h
  have hb := op_bd x
  by_cases h1 : x.ok ∧ 1 ≤ n
  · rw [if_pos h1] at h
    by_cases h2 : n ≤ x.op + x.pd
    · rw [if_pos h2] at h
      by_cases h3 : n ≤ x.op
      · rw [if_pos h3] at h
        simp only [Except.ok.injEq, Prod.mk.injEq] at h
        exact ⟨h1.1, by omega, by omega⟩
      · rw [if_neg h3] at h
        simp only [Except.ok.injEq, Prod.mk.injEq] at h
        exact ⟨h1.1, by omega, by omega⟩
    · rw [if_neg h2] at h; cases h
  · rw [if_neg h1] at h; cases h
theorem credit_er {x : Iv} {n : Int} {e : Int} (h : x.credit n = .error e) : e ≠ 0 := by
  unfold Iv.credit at h
  by_cases h1 : x.ok ∧ 1 ≤ n
  · rw [if_pos h1] at h
    by_cases h2 : n ≤ x.op + x.pd
    · rw [if_pos h2] at h; cases h
    · rw [if_neg h2] at h
      simp only [Except.error.injEq] at h; omega
  · rw [if_neg h1] at h
    simp only [Except.error.injEq] at h; omega
set_option maxHeartbeats 1000000 in
theorem Write (n : Nn) (hn : n.R) (x : Iv) (hx : x.R) (df : Int) (hdf : I64 df) : Pure 18 [n.d, x.d, .int .i64 df] (writeD n x df) := by
  intro S tk
  have hk := noteCheck n
  have hcr := Credit x hx n.am hn.am
  by_cases hw : wok n x df
  · rw [writeD, if_pos hw]
    have hw' := hw
    obtain ⟨h1, h2, h3⟩ := hw'
    rw [if_pos h1] at hk
    cases hc : x.credit n.am with
    | error e =>
      rw [hc, did2] at hcr
      refine ACalls.fgo c18 rfl fun hS => ?_
      have hne := credit_er hc
      repeat' first | with_reducible refine fzD_ite (fun q => ?_) (fun q => ?_) | ((try conv => whnf); first
        | refine bs_t (decide_eq_true h2) ?_
        | refine bs_f (decide_eq_false (show ¬ df < 0 by omega)) ?_
        | refine bs_f (decide_eq_false hne) ?_
        | refine bs_d (fun q => ?_) (fun q => ?_)
        | refine bs_n ?_
        | refine bs_i (fun q => ?_) (fun q => ?_)
        | refine ck (by first | rfl | simp) rfl (hk) ?_
        | refine cq (hk) ?_
        | refine ck (by first | rfl | simp) rfl (hcr) ?_
        | refine cq (hcr) ?_
        | refine eqk rfl ?_
        | refine ffin _ rfl rfl hS (Sub.refl _) rfl ⟨?_, rfl, rfl⟩)
      all_goals rfl
    | ok p =>
      obtain ⟨now, over⟩ := p
      rw [hc, did2] at hcr
      obtain ⟨hxo, c1, c2⟩ := credit_ok hc
      have he := fun tk => entry hx ⟨n.day, 2, n.id⟩ (S0 := S ++ [.arr n.cs, .arr x.cs, .arr [.int .i64 df], .arr now.cs, .arr [.int .i64 0, .int .u8 0, .int .u64 0, .nilsl], .arr [.int .i64 over]]) (fL := 77) (caps := [.po (S.length + 0) 0, .po (S.length + 2) 0, .po (S.length + 5) 0]) (.inr ⟨_, _, _, rfl⟩) rfl (write1 hx h1.2.2.2.2.1 h1.2.2.2.2.2.1 h3 c1 c2 (at_own rfl rfl) (at_own rfl rfl) (at_own rfl rfl)) (by simp [writeP]) (by simp [writeP]) (qs := writeQ n (min n.am df) over) (by simp [writeQ]) (fun p => by simp only [writeP, writeQ, List.mem_cons, List.not_mem_nil, or_false]; constructor <;> (rintro (h | h | h | h) <;> simp [h])) (by intro p hp; simp only [writeP, List.mem_cons, List.not_mem_nil, or_false] at hp; have h5 := h1.2.2.2.2; rcases hp with rfl | rfl | rfl | rfl <;> (simp only; omega)) tk
      refine ACalls.fgo c18 rfl fun hS => ?_
      repeat' first | with_reducible refine fzD_ite (fun q => ?_) (fun q => ?_) | ((try conv => whnf); first
        | refine bs_t (decide_eq_true h2) ?_
        | refine bs_f (decide_eq_false (show ¬ df < 0 by omega)) ?_
        | refine bs_d (fun q => ?_) (fun q => ?_)
        | refine bs_n ?_
        | refine bs_i (fun q => ?_) (fun q => ?_)
        | refine ck (by first | rfl | simp) rfl (hk) ?_
        | refine cq (hk) ?_
        | refine ck (by first | rfl | simp) rfl (hcr) ?_
        | refine cq (hcr) ?_
        | refine cqA (d := entD ⟨n.day, 2, n.id⟩ (PL x (writeQ n (min n.am df) over))) (he _) ?_
        | refine ffin _ rfl rfl hS (Sub.refl _) (by simp [tupD, D.sc, scL, scLL_lns]) ⟨rfl, rfl, rfl⟩
        | refine eqk rfl ?_
        | refine ffin _ rfl rfl hS (Sub.refl _) rfl ⟨?_, rfl, rfl⟩)
  · rw [writeD, if_neg hw]
    by_cases h1 : n.ok
    · rw [if_pos h1] at hk
      have hw2 : ¬ (n.inv = x.id ∧ 0 ≤ df) := fun h => hw ⟨h1, h⟩
      refine ACalls.fgo c18 rfl fun hS => ?_
      by_cases h2 : n.inv = x.id
      · have h3 : df < 0 := by omega
        repeat' first | with_reducible refine fzD_ite (fun q => ?_) (fun q => ?_) | ((try conv => whnf); first
          | refine bs_t (decide_eq_true h2) ?_
          | refine bs_t (decide_eq_true h3) ?_
          | refine bs_d (fun q => ?_) (fun q => ?_)
          | refine bs_n ?_
          | refine bs_i (fun q => ?_) (fun q => ?_)
          | refine ck (by first | rfl | simp) rfl (hk) ?_
          | refine cq (hk) ?_
          | refine eqk rfl ?_
          | refine ffin _ rfl rfl hS (Sub.refl _) rfl ⟨?_, rfl, rfl⟩)
        all_goals rfl
      · skip
        repeat' first | with_reducible refine fzD_ite (fun q => ?_) (fun q => ?_) | ((try conv => whnf); first
          | refine bs_f (decide_eq_false h2) ?_
          | refine bs_d (fun q => ?_) (fun q => ?_)
          | refine bs_n ?_
          | refine bs_i (fun q => ?_) (fun q => ?_)
          | refine ck (by first | rfl | simp) rfl (hk) ?_
          | refine cq (hk) ?_
          | refine eqk rfl ?_
          | refine ffin _ rfl rfl hS (Sub.refl _) rfl ⟨?_, rfl, rfl⟩)
        all_goals rfl
    · rw [if_neg h1] at hk
      refine ACalls.fgo c18 rfl fun hS => ?_
      repeat' first | with_reducible refine fzD_ite (fun q => ?_) (fun q => ?_) | ((try conv => whnf); first
        | refine bs_d (fun q => ?_) (fun q => ?_)
        | refine bs_n ?_
        | refine bs_i (fun q => ?_) (fun q => ?_)
        | refine ck (by first | rfl | simp) rfl (hk) ?_
        | refine cq (hk) ?_
        | refine eqk rfl ?_
        | refine ffin _ rfl rfl hS (Sub.refl _) rfl ⟨?_, rfl, rfl⟩)
      all_goals rfl
end Go.KL.Ytgdidchpignbpaa
