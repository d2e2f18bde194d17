/- the document's bill and its note -/
import Derived.Test.YtgdidchpignbpaaNa
import Derived.Test.YtgdidchpignbpaaCi
set_option linter.unusedVariables false
set_option linter.unusedSimpArgs false
set_option linter.unusedSectionVars false
set_option maxRecDepth 4000
namespace Go.KL.Ytgdidchpignbpaa
open Go Go.KL Go.RowKit Go.Proofs

theorem c76 : cFun E0.P 76 = some ⟨26, [(8, none)], .seq (.rg [⟨some 5, none, .box (.t 1) 26⟩, ⟨some 8, none, .mv (.k .nilsl)⟩]) (.seq (.seq (.rg [⟨some 10, none, .mv (.t 3)⟩, ⟨some 11, none, .bin .eql .leaf (.t 10) (.k (.int .i64 0))⟩]) (.cond (.t 11) (.seq (.rg [⟨some 12, none, .mv (.t 0)⟩, ⟨some 8, none, .mv (.t 12)⟩]) .ret) .skip)) (.seq (.rg [⟨some 13, none, .fa 2 (.t 5)⟩, ⟨some 14, none, .ld 1 false (.t 13)⟩, ⟨some 9, none, .mv (.t 14)⟩]) (.seq (.seq (.rg [⟨some 15, none, .mv (.t 2)⟩, ⟨some 16, none, .bin .eql .leaf (.t 15) (.k (.int .i64 2200))⟩]) (.cond (.t 16) (.rg [⟨some 9, none, .mv (.k (.int .u64 0))⟩]) .skip)) (.seq (.rg [⟨some 17, none, .mv (.t 0)⟩, ⟨some 18, none, .mv (.t 2)⟩, ⟨some 19, none, .fa 1 (.t 5)⟩, ⟨some 20, none, .ld 1 false (.t 19)⟩, ⟨some 21, none, .mv (.t 9)⟩, ⟨some 22, none, .mv (.t 3)⟩, ⟨some 23, none, .build [.int .i64 0, .int .u64 0, .int .u64 0, .int .i64 0] [(0, 1, .t 18), (1, 1, .t 20), (2, 1, .t 21), (3, 1, .t 22)]⟩, ⟨some 24, none, .buildS 1 4 [.int .i64 0, .int .u64 0, .int .u64 0, .int .i64 0] [(0, .t 23)] 88⟩, ⟨some 25, none, .app 30 88 4 32 [.int .i64 0, .int .u64 0, .int .u64 0, .int .i64 0] (.t 17) (.t 24)⟩, ⟨some 8, none, .mv (.t 25)⟩]) .ret))))⟩ := by kernel_rfl
theorem c17 : cFun E0.P 17 = some ⟨24, [(2, some (4, true)), (3, none)], .seq (.rg [⟨some 1, none, .box (.t 0) 26⟩, ⟨some 2, none, .alloc [.int .i64 0, .int .u8 0, .int .u64 0, .nilsl] 32⟩, ⟨some 3, none, .mv (.k (.int .i64 0))⟩]) (.seq (.seq (.rg [⟨some 5, none, .ld 11 true (.t 1)⟩, ⟨some 6, none, .call 75 [.t 5]⟩, ⟨some 7, none, .bin .neq .leaf (.t 6) (.k (.int .i64 0))⟩]) (.cond (.t 7) (.seq (.rg [⟨some 8, none, .build [.int .i64 0, .int .u8 0, .int .u64 0, .nilsl] []⟩, ⟨none, none, .st 4 (.t 2) (.t 8)⟩, ⟨some 3, none, .mv (.k (.int .i64 2))⟩]) .ret) .skip)) (.seq (.rd [(⟨some 9, none, .ld 11 true (.t 1)⟩, none), (⟨some 10, none, .fa 7 (.t 1)⟩, none), (⟨some 11, none, .ld 1 false (.t 10)⟩, none), (⟨some 13, none, .ld 11 true (.t 1)⟩, none), (⟨some 14, none, .fa 7 (.t 1)⟩, none), (⟨some 15, none, .ld 1 false (.t 14)⟩, none), (⟨some 16, none, .un .neg (.t 15)⟩, none), (⟨some 12, none, .call 76 [.k .nilsl, .t 9, .k (.int .i64 1200), .t 11]⟩, some [⟨some 13, none, .ld 11 true (.t 1)⟩, ⟨some 15, none, .ld 1 false (.t 14)⟩]), (⟨some 17, none, .call 76 [.t 12, .t 13, .k (.int .i64 2100), .t 16]⟩, some []), (⟨some 4, none, .mv (.t 17)⟩, none)]) (.seq (.rg [⟨some 18, none, .fa 3 (.t 1)⟩, ⟨some 19, none, .ld 1 false (.t 18)⟩, ⟨some 20, none, .fa 0 (.t 1)⟩, ⟨some 21, none, .ld 1 false (.t 20)⟩, ⟨some 22, none, .mv (.t 4)⟩, ⟨some 23, none, .build [.int .i64 0, .int .u8 0, .int .u64 0, .nilsl] [(0, 1, .t 19), (1, 1, .k (.int .u8 1)), (2, 1, .t 21), (3, 1, .t 22)]⟩, ⟨none, none, .st 4 (.t 2) (.t 23)⟩, ⟨some 3, none, .mv (.k (.int .i64 0))⟩]) .ret)))⟩ := by kernel_rfl
theorem c19 : cFun E0.P 19 = some ⟨78, [(6, some (11, true)), (7, some (4, true)), (8, none)], .seq (.rg [⟨some 3, none, .box (.t 0) 24⟩, ⟨some 4, none, .box (.t 1) 26⟩, ⟨some 6, none, .alloc [.int .u64 0, .int .u64 0, .int .u64 0, .int .i64 0, .int .i64 0, .int .i64 0, .int .i64 0, .int .i64 0, .int .i64 0, .int .i64 0, .int .i64 0] 26⟩, ⟨some 7, none, .alloc [.int .i64 0, .int .u8 0, .int .u64 0, .nilsl] 32⟩, ⟨some 8, none, .mv (.k (.int .i64 0))⟩]) (.seq (.seq (.rg [⟨some 14, none, .ld 5 true (.t 3)⟩, ⟨some 15, none, .call 22 [.t 14]⟩, ⟨some 16, none, .bin .neq .leaf (.t 15) (.k (.int .i64 0))⟩, ⟨some 17, none, .mv (.t 16)⟩, ⟨some 18, some (17, false), .fa 1 (.t 3)⟩, ⟨some 19, some (17, false), .ld 1 false (.t 18)⟩, ⟨some 20, some (17, false), .fa 0 (.t 4)⟩, ⟨some 21, some (17, false), .ld 1 false (.t 20)⟩, ⟨some 22, some (17, false), .bin .neq .leaf (.t 19) (.t 21)⟩, ⟨some 23, none, .pick (.t 17) (.k (.bool true)) (.t 22)⟩, ⟨some 24, none, .mv (.t 23)⟩, ⟨some 25, some (24, false), .mv (.t 2)⟩, ⟨some 26, some (24, false), .bin .lss .leaf (.t 25) (.k (.int .i64 0))⟩, ⟨some 27, none, .pick (.t 24) (.k (.bool true)) (.t 26)⟩]) (.cond (.t 27) (.seq (.rg [⟨some 28, none, .build [.int .u64 0, .int .u64 0, .int .u64 0, .int .i64 0, .int .i64 0, .int .i64 0, .int .i64 0, .int .i64 0, .int .i64 0, .int .i64 0, .int .i64 0] []⟩, ⟨some 29, none, .build [.int .i64 0, .int .u8 0, .int .u64 0, .nilsl] []⟩, ⟨none, none, .st 11 (.t 6) (.t 28)⟩, ⟨none, none, .st 4 (.t 7) (.t 29)⟩, ⟨some 8, none, .mv (.k (.int .i64 2))⟩]) .ret) .skip)) (.seq (.rg [⟨some 31, none, .ld 11 true (.t 4)⟩, ⟨some 32, none, .fa 3 (.t 3)⟩, ⟨some 33, none, .ld 1 false (.t 32)⟩, ⟨some 34, none, .call 78 [.t 31, .t 33]⟩, ⟨some 30, none, .mv (.t 34)⟩, ⟨some 35, none, .ext 0 (.t 30)⟩, ⟨some 36, none, .ext 1 (.t 30)⟩, ⟨some 37, none, .ext 2 (.t 30)⟩, ⟨some 9, none, .alloc [.int .u64 0, .int .u64 0, .int .u64 0, .int .i64 0, .int .i64 0, .int .i64 0, .int .i64 0, .int .i64 0, .int .i64 0, .int .i64 0, .int .i64 0] 26⟩, ⟨none, none, .st 11 (.t 9) (.t 35)⟩, ⟨some 10, none, .mv (.t 36)⟩, ⟨some 11, none, .mv (.t 37)⟩]) (.seq (.seq (.rg [⟨some 38, none, .mv (.t 11)⟩, ⟨some 39, none, .bin .neq .leaf (.t 38) (.k (.int .i64 0))⟩]) (.cond (.t 39) (.seq (.rg [⟨some 40, none, .build [.int .u64 0, .int .u64 0, .int .u64 0, .int .i64 0, .int .i64 0, .int .i64 0, .int .i64 0, .int .i64 0, .int .i64 0, .int .i64 0, .int .i64 0] []⟩, ⟨some 41, none, .build [.int .i64 0, .int .u8 0, .int .u64 0, .nilsl] []⟩, ⟨some 42, none, .mv (.t 11)⟩, ⟨none, none, .st 11 (.t 6) (.t 40)⟩, ⟨none, none, .st 4 (.t 7) (.t 41)⟩, ⟨some 8, none, .mv (.t 42)⟩]) .ret) .skip)) (.seq (.rg [⟨some 43, none, .fa 3 (.t 3)⟩, ⟨some 44, none, .ld 1 false (.t 43)⟩, ⟨some 12, none, .mv (.t 44)⟩]) (.seq (.seq (.rg [⟨some 45, none, .mv (.t 2)⟩, ⟨some 46, none, .mv (.t 12)⟩, ⟨some 47, none, .bin .lss .leaf (.t 45) (.t 46)⟩]) (.cond (.t 47) (.rg [⟨some 48, none, .mv (.t 2)⟩, ⟨some 12, none, .mv (.t 48)⟩]) .skip)) (.seq (.rg [⟨some 49, none, .ld 11 true (.t 4)⟩, ⟨some 50, none, .mv (.t 10)⟩, ⟨some 51, none, .fa 3 (.t 3)⟩, ⟨some 52, none, .ld 1 false (.t 51)⟩, ⟨some 53, none, .bin .sub .leaf (.t 50) (.t 52)⟩, ⟨some 54, none, .call 76 [.k .nilsl, .t 49, .k (.int .i64 1200), .t 53]⟩, ⟨some 13, none, .mv (.t 54)⟩]) (.seq (.rg [⟨some 55, none, .mv (.t 13)⟩, ⟨some 56, none, .ld 11 true (.t 4)⟩, ⟨some 57, none, .mv (.t 12)⟩, ⟨some 58, none, .call 76 [.t 55, .t 56, .k (.int .i64 2100), .t 57]⟩, ⟨some 13, none, .mv (.t 58)⟩]) (.seq (.rg [⟨some 59, none, .mv (.t 13)⟩, ⟨some 60, none, .ld 11 true (.t 4)⟩, ⟨some 61, none, .mv (.t 10)⟩, ⟨some 62, none, .un .neg (.t 61)⟩, ⟨some 63, none, .call 76 [.t 59, .t 60, .k (.int .i64 2200), .t 62]⟩, ⟨some 13, none, .mv (.t 63)⟩]) (.seq (.rg [⟨some 64, none, .mv (.t 13)⟩, ⟨some 65, none, .ld 11 true (.t 4)⟩, ⟨some 66, none, .fa 3 (.t 3)⟩, ⟨some 67, none, .ld 1 false (.t 66)⟩, ⟨some 68, none, .mv (.t 12)⟩, ⟨some 69, none, .bin .sub .leaf (.t 67) (.t 68)⟩, ⟨some 70, none, .call 76 [.t 64, .t 65, .k (.int .i64 3100), .t 69]⟩, ⟨some 13, none, .mv (.t 70)⟩]) (.seq (.rd [(⟨some 71, none, .ld 11 true (.t 9)⟩, none), (⟨some 72, none, .fa 2 (.t 3)⟩, none), (⟨some 73, none, .ld 1 false (.t 72)⟩, none), (⟨some 74, none, .fa 0 (.t 3)⟩, none), (⟨some 75, none, .ld 1 false (.t 74)⟩, none), (⟨some 76, none, .mv (.t 13)⟩, none), (⟨some 77, none, .build [.int .i64 0, .int .u8 0, .int .u64 0, .nilsl] [(0, 1, .t 73), (1, 1, .k (.int .u8 2)), (2, 1, .t 75), (3, 1, .t 76)]⟩, none), (⟨none, none, .st 11 (.t 6) (.t 71)⟩, some [⟨some 73, none, .ld 1 false (.t 72)⟩, ⟨some 75, none, .ld 1 false (.t 74)⟩]), (⟨none, none, .st 4 (.t 7) (.t 77)⟩, some []), (⟨some 8, none, .mv (.k (.int .i64 0))⟩, none)]) .ret))))))))))⟩ := by kernel_rfl

theorem withZn (x : Iv) (a n : Int) (h : n = 0) (S : List O) (tk : Tks) : ACalls E0 76 [.nilsl, x.d, .int .i64 a, .int .i64 n] S tk (fun r S' tk' => r = .nilsl ∧ S' = S ∧ tk' = tk) := by
  refine ACalls.fgo c76 rfl fun hS => ?_
  repeat' first | with_reducible refine fzD_ite (fun q => ?_) (fun q => ?_) | ((try conv => whnf); first
    | refine bs_t (decide_eq_true h) ?_
    | refine bs_d (fun q => ?_) (fun q => ?_)
    | refine bs_n ?_
    | refine bs_i (fun q => ?_) (fun q => ?_)
    | refine eqk rfl ?_
    | refine ffin _ rfl rfl hS (Sub.refl _) rfl ⟨?_, rfl, rfl⟩)
  rfl
theorem withZg (x : Iv) (a n : Int) (h : n = 0) (L : List Ln) (t : Nat) (S : List O) (tk : Tks) (ht : t < tk.length) : ACalls E0 76 [.gsl (lns L) t, x.d, .int .i64 a, .int .i64 n] S tk (fun r S' tk' => r = .gsl (lns L) t ∧ S' = S ∧ tk' = tk) := by
  refine ACalls.fgo c76 rfl fun hS => ?_
  repeat' first | with_reducible refine fzD_ite (fun q => ?_) (fun q => ?_) | ((try conv => whnf); first
    | refine bs_t (decide_eq_true h) ?_
    | refine bs_d (fun q => ?_) (fun q => ?_)
    | refine bs_n ?_
    | refine bs_i (fun q => ?_) (fun q => ?_)
    | refine ffin (.gsl (lns L) t) rfl rfl hS (Sub.refl _) (by simp [D.sc, scLL_lns, ht]) ⟨rfl, rfl, rfl⟩
    | refine eqk rfl ?_
    | refine ffin _ rfl rfl hS (Sub.refl _) rfl ⟨?_, rfl, rfl⟩)
/-- the answer's tokens are handed on, the objects are not -/
theorem ffinTk {E : Env} {n0 m0 : Nat} {S J : List O} {T TK : Tks} {d d' : D} {Post : D → List O → Tks → Prop} (hn : S.length = n0) (hm : T.length = m0) (hS : OSc n0 m0 S) (hs : Sub d d') (hsc : d'.sc n0 (m0 + TK.length) = true) (hp : Post d' S (T ++ TK)) : FFin E n0 m0 S J T TK d Post := by
  refine ⟨d', _, _, ?_, hp⟩
  have e2 : (T ++ TK).length = m0 + TK.length := by rw [List.length_append, hm]
  have := Shift.drop (E := E) (n0 := n0) (m0 := m0) (fr := [(0, d)]) (fr' := [(0, d')]) (S := S) (J := J) (tk := T ++ TK) (J' := []) ⟨by simpa [KL.get] using hs, trivial⟩ (by omega) (by omega) (by rw [hn, e2]; simp [frSc, hsc]) (by have h := hS.more (J := []) (Nat.le_refl n0) (m' := m0 + TK.length) (by omega) rfl; rw [List.append_nil] at h; rw [hn, e2]; exact h)
  rwa [List.append_nil] at this
theorem withN (x : Iv) (a n : Int) (h : n ≠ 0) (S : List O) (tk : Tks) : ACalls E0 76 [.nilsl, x.d, .int .i64 a, .int .i64 n] S tk (fun r S' tk' => r = .gsl (lns [lineP x (a, n)]) (tk.length + 0) ∧ S' = S ∧ tk' = tk ++ [((lns [lineP x (a, n)]).length, 88, 4)]) := by
  refine ACalls.fgo c76 rfl fun hS => ?_
  by_cases ha : a = 2200
  · have e : (lineP x (a, n)).cs = [.int .i64 a, .int .u64 x.cu, .int .u64 0, .int .i64 n] := by simp only [lineP, ha, if_true]; rfl
    rw [show lns [lineP x (a, n)] = [(lineP x (a, n)).cs] from rfl, e]
    repeat' first | with_reducible refine fzD_ite (fun q => ?_) (fun q => ?_) | ((try conv => whnf); first
      | refine bs_f (decide_eq_false h) ?_
      | refine bs_t (decide_eq_true ha) ?_
      | refine bs_d (fun q => ?_) (fun q => ?_)
      | refine bs_n ?_
      | refine bs_i (fun q => ?_) (fun q => ?_)
      | refine gk_app0 (src := [_]) rfl rfl (.inl rfl) rfl (by simp) (by simp [maxLen]) ?_
      | refine ffinTk rfl rfl hS (Sub.refl _) (by simp [tupD, D.sc, scLL, scL]) ⟨rfl, rfl, rfl⟩
      | refine eqk rfl ?_
      | refine ffin _ rfl rfl hS (Sub.refl _) rfl ⟨?_, rfl, rfl⟩)
  · have e : (lineP x (a, n)).cs = [.int .i64 a, .int .u64 x.cu, .int .u64 x.co, .int .i64 n] := by simp only [lineP, ha, if_false]; rfl
    rw [show lns [lineP x (a, n)] = [(lineP x (a, n)).cs] from rfl, e]
    repeat' first | with_reducible refine fzD_ite (fun q => ?_) (fun q => ?_) | ((try conv => whnf); first
      | refine bs_f (decide_eq_false h) ?_
      | refine bs_f (decide_eq_false ha) ?_
      | refine bs_d (fun q => ?_) (fun q => ?_)
      | refine bs_n ?_
      | refine bs_i (fun q => ?_) (fun q => ?_)
      | refine gk_app0 (src := [_]) rfl rfl (.inl rfl) rfl (by simp) (by simp [maxLen]) ?_
      | refine ffinTk rfl rfl hS (Sub.refl _) (by simp [tupD, D.sc, scLL, scL]) ⟨rfl, rfl, rfl⟩
      | refine eqk rfl ?_
      | refine ffin _ rfl rfl hS (Sub.refl _) rfl ⟨?_, rfl, rfl⟩)
theorem withG (x : Iv) (a n : Int) (h : n ≠ 0) (L : List Ln) (hl : L.length < 1000) (t : Nat) (S : List O) (tk : Tks) (ht : tk[t]? = some ((lns L).length, 88, 4)) :
    ACalls E0 76 [.gsl (lns L) t, x.d, .int .i64 a, .int .i64 n] S tk (fun r S' tk' => r = .gsl (lns (L ++ [lineP x (a, n)])) t ∧ S' = S ∧ tk' = tk.set t ((lns (L ++ [lineP x (a, n)])).length, 88, 4)) := by
  refine ACalls.fgo c76 rfl fun hS => ?_
  have htl : t < tk.length := (List.getElem?_eq_some_iff.1 ht).1
  have e0 : lns (L ++ [lineP x (a, n)]) = lns L ++ [(lineP x (a, n)).cs] := by simp [lns]
  have hsc := scLL_lns S.length tk.length (L ++ [lineP x (a, n)])
  rw [e0] at hsc ⊢
  by_cases ha : a = 2200
  · have e : (lineP x (a, n)).cs = [.int .i64 a, .int .u64 x.cu, .int .u64 0, .int .i64 n] := by simp only [lineP, ha, if_true]; rfl
    rw [e] at hsc ⊢
    repeat' first | with_reducible refine fzD_ite (fun q => ?_) (fun q => ?_) | ((try conv => whnf); first
      | refine bs_f (decide_eq_false h) ?_
      | refine bs_t (decide_eq_true ha) ?_
      | refine bs_d (fun q => ?_) (fun q => ?_)
      | refine bs_n ?_
      | refine bs_i (fun q => ?_) (fun q => ?_)
      | refine gk_app_old (es := lns L) (src := [_]) rfl rfl rfl rfl ht (by simp) (by rw [lns_len]; simp [maxLen]; omega) ?_
      | refine ffin (.gsl _ t) rfl (by simp) hS (Sub.refl _) (by simp only [D.sc, hsc, htl, decide_true, Bool.and_true]) ⟨rfl, rfl, rfl⟩
      | refine eqk rfl ?_
      | refine ffin _ rfl rfl hS (Sub.refl _) rfl ⟨?_, rfl, rfl⟩)
  · have e : (lineP x (a, n)).cs = [.int .i64 a, .int .u64 x.cu, .int .u64 x.co, .int .i64 n] := by simp only [lineP, ha, if_false]; rfl
    rw [e] at hsc ⊢
    repeat' first | with_reducible refine fzD_ite (fun q => ?_) (fun q => ?_) | ((try conv => whnf); first
      | refine bs_f (decide_eq_false h) ?_
      | refine bs_f (decide_eq_false ha) ?_
      | refine bs_d (fun q => ?_) (fun q => ?_)
      | refine bs_n ?_
      | refine bs_i (fun q => ?_) (fun q => ?_)
      | refine gk_app_old (es := lns L) (src := [_]) rfl rfl rfl rfl ht (by simp) (by rw [lns_len]; simp [maxLen]; omega) ?_
      | refine ffin (.gsl _ t) rfl (by simp) hS (Sub.refl _) (by simp only [D.sc, hsc, htl, decide_true, Bool.and_true]) ⟨rfl, rfl, rfl⟩
      | refine eqk rfl ?_
      | refine ffin _ rfl rfl hS (Sub.refl _) rfl ⟨?_, rfl, rfl⟩)
section
variable {x : Iv} {n0 m0 : Nat} {S J : List O} {T : Tks} {K : FD → List O → List O → Tks → Tks → Prop}
theorem ckWZn (a n : Int) {n' : Int} (he : n' = n) (h : n = 0) (hn : S.length = n0) (hm : T.length = m0) {TK : Tks} (hk : K (.d .nilsl) S J T TK) : CK E0 n0 m0 76 [.nilsl, x.d, .int .i64 a, .int .i64 n'] S J T TK K := he ▸ ckA (d := .nilsl) hn hm (withZn x a n h _ _) hk
theorem ckWZg (a n : Int) {n' : Int} (he : n' = n) {L : List Ln} (h : n = 0) (hn : S.length = n0) (hm : T.length = m0) {p : Nat × TypeId × Nat} (hk : K (.d (.gsl (lns L) (m0 + 0))) S J T [p]) : CK E0 n0 m0 76 [.gsl (lns L) (m0 + 0), x.d, .int .i64 a, .int .i64 n'] S J T [p] K := he ▸ ckA (d := .gsl (lns L) (m0 + 0)) hn hm (withZg x a n h L _ _ _ (by simp [hm])) hk
theorem ckWN (a n : Int) {n' : Int} (he : n' = n) (h : n ≠ 0) (hn : S.length = n0) (hm : T.length = m0) (hk : K (.d (.gsl (lns [lineP x (a, n)]) (m0 + 0))) S J T [((lns [lineP x (a, n)]).length, 88, 4)]) : CK E0 n0 m0 76 [.nilsl, x.d, .int .i64 a, .int .i64 n'] S J T [] K := by
  rw [he]
  refine ckG (withN x a n h _ _) ?_
  rintro r S' tk' ⟨rfl, rfl, rfl⟩
  rw [List.append_nil, hm]
  exact ⟨S, J, T, _, rfl, rfl, hn, hm, hk⟩
theorem ckWG (a n : Int) {n' : Int} (he : n' = n) {L : List Ln} (hl : L.length < 1000) (h : n ≠ 0) (hn : S.length = n0) (hm : T.length = m0) (hk : K (.d (.gsl (lns (L ++ [lineP x (a, n)])) (m0 + 0))) S J T [((lns (L ++ [lineP x (a, n)])).length, 88, 4)]) : CK E0 n0 m0 76 [.gsl (lns L) (m0 + 0), x.d, .int .i64 a, .int .i64 n'] S J T [((lns L).length, 88, 4)] K := by
  rw [he]
  refine ckG (withG x a n h L hl _ _ _ (by rw [← hm, Nat.add_zero]; simp)) ?_
  rintro r S' tk' ⟨rfl, rfl, rfl⟩
  refine ⟨S, J, T, [((lns (L ++ [lineP x (a, n)])).length, 88, 4)], rfl, ?_, hn, hm, hk⟩
  rw [← hm, Nat.add_zero, List.set_append_right _ _ (Nat.le_refl _)]; simp
end
theorem subE {e : En} {l : D} {L : List Ln} (h : l.rd = some (lns L)) : Sub (.agg [.int .i64 e.day, .int .u8 e.kind, .int .u64 e.src, l]) (entD e L) := Sub.agg (.cons (Sub.refl _) (.cons (Sub.refl _) (.cons (Sub.refl _) (.cons (Sub.rd h) .nil))))
theorem refBill (x : Iv) (hx : x.R) : Pure 17 [x.d] (billD x) := by
  intro S tk
  have hc := refCheck x hx
  by_cases hok : x.ok
  · rw [if_pos hok] at hc
    rw [billD, if_pos hok]
    have hw : IntKind.wrap .i64 (0 - x.am) = -x.am := by rw [wi64_id (by have := hok.2.1; unfold I64; omega)]; omega
    by_cases h0 : x.am = 0
    · have h1 : -x.am = 0 := by omega
      have hPL : PL x (billP x) = [] := by simp [PL, billP, h0]
      rw [hPL]
      refine ACalls.fgo c17 rfl fun hS => ?_
      repeat' first | with_reducible refine fzD_ite (fun q => ?_) (fun q => ?_) | ((try conv => whnf); first
        | refine bs_d (fun q => ?_) (fun q => ?_)
        | refine bs_n ?_
        | refine bs_i (fun q => ?_) (fun q => ?_)
        | refine ck (by first | rfl | simp) rfl (hc) ?_
        | refine cq (hc) ?_
        | refine ckWZn 1200 x.am rfl h0 rfl rfl ?_
        | refine ckWZn 2100 (-x.am) hw h1 rfl rfl ?_
        | refine ffin (.tup [entD ⟨x.day, 1, x.id⟩ [], .int .i64 0]) rfl rfl hS (Sub.tup (.cons (subE (e := ⟨x.day, 1, x.id⟩) (by rfl)) (.cons (Sub.refl _) .nil))) (by simp [entD, D.sc, scL, scLL_lns]) ⟨rfl, rfl, rfl⟩
        | refine eqk rfl ?_
        | refine ffin _ rfl rfl hS (Sub.refl _) rfl ⟨?_, rfl, rfl⟩)
    · have h1 : -x.am ≠ 0 := by omega
      have hPL : PL x (billP x) = [lineP x (1200, x.am)] ++ [lineP x (2100, -x.am)] := by simp [PL, billP, h0]
      rw [hPL]
      refine ACalls.fgo c17 rfl fun hS => ?_
      repeat' first | with_reducible refine fzD_ite (fun q => ?_) (fun q => ?_) | ((try conv => whnf); first
        | refine bs_d (fun q => ?_) (fun q => ?_)
        | refine bs_n ?_
        | refine bs_i (fun q => ?_) (fun q => ?_)
        | refine ck (by first | rfl | simp) rfl (hc) ?_
        | refine cq (hc) ?_
        | refine ckWN 1200 x.am rfl h0 rfl rfl ?_
        | refine ckWG 2100 (-x.am) hw (by simp) h1 rfl rfl ?_
        | refine ffin (.tup [entD ⟨x.day, 1, x.id⟩ ([lineP x (1200, x.am)] ++ [lineP x (2100, -x.am)]), .int .i64 0]) rfl rfl hS (Sub.tup (.cons (subE (e := ⟨x.day, 1, x.id⟩) (by rfl)) (.cons (Sub.refl _) .nil))) (by simp [entD, D.sc, scL, scLL_lns]) ⟨rfl, rfl, rfl⟩
        | refine eqk rfl ?_
        | refine ffin _ rfl rfl hS (Sub.refl _) rfl ⟨?_, rfl, rfl⟩)
  · rw [if_neg hok] at hc
    rw [billD, if_neg hok]
    refine ACalls.fgo c17 rfl fun hS => ?_
    repeat' first | with_reducible refine fzD_ite (fun q => ?_) (fun q => ?_) | ((try conv => whnf); first
      | refine bs_d (fun q => ?_) (fun q => ?_)
      | refine bs_n ?_
      | refine bs_i (fun q => ?_) (fun q => ?_)
      | refine ck (by first | rfl | simp) rfl (hc) ?_
      | refine cq (hc) ?_
      | refine eqk rfl ?_
      | refine ffin _ rfl rfl hS (Sub.refl _) rfl ⟨?_, rfl, rfl⟩)
    rfl
end Go.KL.Ytgdidchpignbpaa

/- the document's note -/
set_option linter.unusedVariables false
set_option linter.unusedSimpArgs false
set_option linter.unusedSectionVars false
set_option maxRecDepth 4000
namespace Go.KL.Ytgdidchpignbpaa
open Go Go.KL Go.RowKit Go.Proofs

theorem sub3 {e : En} {l a : D} {k : Int} {L : List Ln} (h : l.rd = some (lns L)) : Sub (.tup [a, .agg [.int .i64 e.day, .int .u8 e.kind, .int .u64 e.src, l], .int .i64 k]) (.tup [a, entD e L, .int .i64 k]) := Sub.tup (.cons (Sub.refl _) (.cons (subE h) (.cons (Sub.refl _) .nil)))
set_option maxHeartbeats 2000000 in
theorem refWrite (n : Nn) (hn : n.R) (x : Iv) (hx : x.R) (df : Int) (hdf : I64 df) : Pure 19 [n.d, x.d, .int .i64 df] (writeD n x df) := by
  intro S tk
  have hk := refNoteCheck n
  have hcr := refCredit x hx n.am hn.am
  by_cases hw : wok n x df
  · rw [writeD, if_pos hw]
    have hw' := hw
    obtain ⟨h1, h2, h3⟩ := hw'
    rw [if_pos h1] at hk
    cases hc : x.credit n.am with
    | error e =>
      rw [hc, did2] at hcr
      have hne := credit_er hc
      refine ACalls.fgo c19 rfl fun hS => ?_
      repeat' first | with_reducible refine fzD_ite (fun q => ?_) (fun q => ?_) | ((try conv => whnf); first
        | refine bs_t (decide_eq_true h2) ?_
        | refine bs_f (decide_eq_false (show ¬ df < 0 by omega)) ?_
        | refine bs_f (decide_eq_false hne) ?_
        | refine bs_d (fun q => ?_) (fun q => ?_)
        | refine bs_n ?_
        | refine bs_i (fun q => ?_) (fun q => ?_)
        | refine ck (by first | rfl | simp) rfl (hk) ?_
        | refine cq (hk) ?_
        | refine ck (by first | rfl | simp) rfl (hcr) ?_
        | refine cq (hcr) ?_
        | refine eqk rfl ?_
        | refine ffin _ rfl rfl hS (Sub.refl _) rfl ⟨?_, rfl, rfl⟩)
      all_goals rfl
    | ok p =>
      obtain ⟨now, over⟩ := p
      rw [hc, did2] at hcr
      obtain ⟨hxo, c1, c2⟩ := credit_ok hc
      have h5 := h1.2.2.2.2
      obtain ⟨d, hd⟩ : ∃ d, d = min n.am df := ⟨_, rfl⟩
      show ACalls E0 _ _ S tk (fun r S' tk' => r = .tup [now.d, entD ⟨n.day, 2, n.id⟩ (PL x (writeQ n (min n.am df) over)), .int .i64 0] ∧ S' = S ∧ tk' = tk)
      rw [← hd]
      have w1 : IntKind.wrap .i64 (over - n.am) = over - n.am := wi64_id (by unfold I64; omega)
      have w2 : IntKind.wrap .i64 (0 - over) = -over := by rw [wi64_id (by unfold I64; omega)]; omega
      have h3' : ¬ df < 0 := by omega
      have z5 : ¬ n.am = 0 := by omega
      by_cases hlt : df < n.am
      · have wd : df = d := by omega
        have w3 : IntKind.wrap .i64 (n.am - df) = n.am - d := by rw [wi64_id (by unfold I64; omega)]; omega
        have main : ∀ (z1 : over - n.am = 0 ∨ ¬ over - n.am = 0) (z2 : d = 0 ∨ ¬ d = 0) (z3 : -over = 0 ∨ ¬ -over = 0) (z4 : n.am - d = 0 ∨ ¬ n.am - d = 0), ACalls E0 19 [n.d, x.d, .int .i64 df] S tk (fun r S' tk' => r = .tup [now.d, entD ⟨n.day, 2, n.id⟩ (PL x (writeQ n d over)), .int .i64 0] ∧ S' = S ∧ tk' = tk) := by
          intro z1 z2 z3 z4
          rcases z1 with z1 | z1 <;> rcases z2 with z2 | z2 <;> rcases z3 with z3 | z3 <;> rcases z4 with z4 | z4
          all_goals try (exfalso; omega)
          all_goals
            refine ACalls.fgo c19 rfl fun hS => ?_
            repeat' first | with_reducible refine fzD_ite (fun q => ?_) (fun q => ?_) | ((try conv => whnf); first
              | refine bs_t (decide_eq_true h2) ?_
              | refine bs_f (decide_eq_false h3') ?_
              | refine bs_t (decide_eq_true hlt) ?_
              | refine bs_d (fun q => ?_) (fun q => ?_)
              | refine bs_n ?_
              | refine bs_i (fun q => ?_) (fun q => ?_)
              | refine ck (by first | rfl | simp) rfl (hk) ?_
              | refine cq (hk) ?_
              | refine ck (by first | rfl | simp) rfl (hcr) ?_
              | refine cq (hcr) ?_
              | refine ckWZn 1200 (over - n.am) w1 (by assumption) rfl rfl ?_
              | refine ckWN 1200 (over - n.am) w1 (by assumption) rfl rfl ?_
              | refine ckWZg 1200 (over - n.am) w1 (by assumption) rfl rfl ?_
              | refine ckWG 1200 (over - n.am) w1 (by simp) (by assumption) rfl rfl ?_
              | refine ckWZn 2100 d wd (by assumption) rfl rfl ?_
              | refine ckWN 2100 d wd (by assumption) rfl rfl ?_
              | refine ckWZg 2100 d wd (by assumption) rfl rfl ?_
              | refine ckWG 2100 d wd (by simp) (by assumption) rfl rfl ?_
              | refine ckWZn 2200 (-over) w2 (by assumption) rfl rfl ?_
              | refine ckWN 2200 (-over) w2 (by assumption) rfl rfl ?_
              | refine ckWZg 2200 (-over) w2 (by assumption) rfl rfl ?_
              | refine ckWG 2200 (-over) w2 (by simp) (by assumption) rfl rfl ?_
              | refine ckWZn 3100 (n.am - d) w3 (by assumption) rfl rfl ?_
              | refine ckWN 3100 (n.am - d) w3 (by assumption) rfl rfl ?_
              | refine ckWZg 3100 (n.am - d) w3 (by assumption) rfl rfl ?_
              | refine ckWG 3100 (n.am - d) w3 (by simp) (by assumption) rfl rfl ?_
              | refine ffin (.tup [now.d, entD ⟨n.day, 2, n.id⟩ (PL x (writeQ n d over)), .int .i64 0]) rfl rfl hS (sub3 (e := ⟨n.day, 2, n.id⟩) (by simp [D.rd, PL, writeQ, z1, z2, z3, z4, z5])) (by simp [entD, D.sc, scL, scLL_lns, Iv.d, Iv.cs]) ⟨rfl, rfl, rfl⟩
              | refine eqk rfl ?_
              | refine ffin _ rfl rfl hS (Sub.refl _) rfl ⟨?_, rfl, rfl⟩)
        exact main (by omega) (by omega) (by omega) (by omega)
      · have wd : n.am = d := by omega
        have w3 : IntKind.wrap .i64 (n.am - n.am) = n.am - d := by rw [wi64_id (by unfold I64; omega)]; omega
        have main : ∀ (z1 : over - n.am = 0 ∨ ¬ over - n.am = 0) (z2 : d = 0 ∨ ¬ d = 0) (z3 : -over = 0 ∨ ¬ -over = 0) (z4 : n.am - d = 0 ∨ ¬ n.am - d = 0), ACalls E0 19 [n.d, x.d, .int .i64 df] S tk (fun r S' tk' => r = .tup [now.d, entD ⟨n.day, 2, n.id⟩ (PL x (writeQ n d over)), .int .i64 0] ∧ S' = S ∧ tk' = tk) := by
          intro z1 z2 z3 z4
          rcases z1 with z1 | z1 <;> rcases z2 with z2 | z2 <;> rcases z3 with z3 | z3 <;> rcases z4 with z4 | z4
          all_goals try (exfalso; omega)
          all_goals
            refine ACalls.fgo c19 rfl fun hS => ?_
            repeat' first | with_reducible refine fzD_ite (fun q => ?_) (fun q => ?_) | ((try conv => whnf); first
              | refine bs_t (decide_eq_true h2) ?_
              | refine bs_f (decide_eq_false h3') ?_
              | refine bs_f (decide_eq_false hlt) ?_
              | refine bs_d (fun q => ?_) (fun q => ?_)
              | refine bs_n ?_
              | refine bs_i (fun q => ?_) (fun q => ?_)
              | refine ck (by first | rfl | simp) rfl (hk) ?_
              | refine cq (hk) ?_
              | refine ck (by first | rfl | simp) rfl (hcr) ?_
              | refine cq (hcr) ?_
              | refine ckWZn 1200 (over - n.am) w1 (by assumption) rfl rfl ?_
              | refine ckWN 1200 (over - n.am) w1 (by assumption) rfl rfl ?_
              | refine ckWZg 1200 (over - n.am) w1 (by assumption) rfl rfl ?_
              | refine ckWG 1200 (over - n.am) w1 (by simp) (by assumption) rfl rfl ?_
              | refine ckWZn 2100 d wd (by assumption) rfl rfl ?_
              | refine ckWN 2100 d wd (by assumption) rfl rfl ?_
              | refine ckWZg 2100 d wd (by assumption) rfl rfl ?_
              | refine ckWG 2100 d wd (by simp) (by assumption) rfl rfl ?_
              | refine ckWZn 2200 (-over) w2 (by assumption) rfl rfl ?_
              | refine ckWN 2200 (-over) w2 (by assumption) rfl rfl ?_
              | refine ckWZg 2200 (-over) w2 (by assumption) rfl rfl ?_
              | refine ckWG 2200 (-over) w2 (by simp) (by assumption) rfl rfl ?_
              | refine ckWZn 3100 (n.am - d) w3 (by assumption) rfl rfl ?_
              | refine ckWN 3100 (n.am - d) w3 (by assumption) rfl rfl ?_
              | refine ckWZg 3100 (n.am - d) w3 (by assumption) rfl rfl ?_
              | refine ckWG 3100 (n.am - d) w3 (by simp) (by assumption) rfl rfl ?_
              | refine ffin (.tup [now.d, entD ⟨n.day, 2, n.id⟩ (PL x (writeQ n d over)), .int .i64 0]) rfl rfl hS (sub3 (e := ⟨n.day, 2, n.id⟩) (by simp [D.rd, PL, writeQ, z1, z2, z3, z4, z5])) (by simp [entD, D.sc, scL, scLL_lns, Iv.d, Iv.cs]) ⟨rfl, rfl, rfl⟩
              | refine eqk rfl ?_
              | refine ffin _ rfl rfl hS (Sub.refl _) rfl ⟨?_, rfl, rfl⟩)
        exact main (by omega) (by omega) (by omega) (by omega)
  · rw [writeD, if_neg hw]
    by_cases h1 : n.ok
    · rw [if_pos h1] at hk
      have hw2 : ¬ (n.inv = x.id ∧ 0 ≤ df) := fun h => hw ⟨h1, h⟩
      refine ACalls.fgo c19 rfl fun hS => ?_
      by_cases h2 : n.inv = x.id
      · have h3 : df < 0 := by omega
        repeat' first | with_reducible refine fzD_ite (fun q => ?_) (fun q => ?_) | ((try conv => whnf); first
          | refine bs_t (decide_eq_true h2) ?_
          | refine bs_t (decide_eq_true h3) ?_
          | refine bs_d (fun q => ?_) (fun q => ?_)
          | refine bs_n ?_
          | refine bs_i (fun q => ?_) (fun q => ?_)
          | refine ck (by first | rfl | simp) rfl (hk) ?_
          | refine cq (hk) ?_
          | refine eqk rfl ?_
          | refine ffin _ rfl rfl hS (Sub.refl _) rfl ⟨?_, rfl, rfl⟩)
        all_goals rfl
      · skip
        repeat' first | with_reducible refine fzD_ite (fun q => ?_) (fun q => ?_) | ((try conv => whnf); first
          | refine bs_f (decide_eq_false h2) ?_
          | refine bs_d (fun q => ?_) (fun q => ?_)
          | refine bs_n ?_
          | refine bs_i (fun q => ?_) (fun q => ?_)
          | refine ck (by first | rfl | simp) rfl (hk) ?_
          | refine cq (hk) ?_
          | refine eqk rfl ?_
          | refine ffin _ rfl rfl hS (Sub.refl _) rfl ⟨?_, rfl, rfl⟩)
        all_goals rfl
    · rw [if_neg h1] at hk
      refine ACalls.fgo c19 rfl fun hS => ?_
      repeat' first | with_reducible refine fzD_ite (fun q => ?_) (fun q => ?_) | ((try conv => whnf); first
        | refine bs_d (fun q => ?_) (fun q => ?_)
        | refine bs_n ?_
        | refine bs_i (fun q => ?_) (fun q => ?_)
        | refine ck (by first | rfl | simp) rfl (hk) ?_
        | refine cq (hk) ?_
        | refine eqk rfl ?_
        | refine ffin _ rfl rfl hS (Sub.refl _) rfl ⟨?_, rfl, rfl⟩)
      all_goals rfl
end Go.KL.Ytgdidchpignbpaa

/- lists, compared -/
set_option linter.unusedVariables false
set_option linter.unusedSimpArgs false
set_option linter.unusedSectionVars false
set_option maxRecDepth 4000
namespace Go.KL.Ytgdidchpignbpaa
open Go Go.KL Go.RowKit Go.Proofs

theorem c41 : cFun E0.P 41 = some ⟨26, [(4, none)], .seq (.rg [⟨some 4, none, .mv (.k (.bool false))⟩]) (.seq (.seq (.rg [⟨some 6, none, .mv (.t 0)⟩, ⟨some 7, none, .len 1 (.t 6)⟩, ⟨some 8, none, .mv (.t 1)⟩, ⟨some 9, none, .len 1 (.t 8)⟩, ⟨some 10, none, .bin .neq .leaf (.t 7) (.t 9)⟩]) (.cond (.t 10) (.seq (.rg [⟨some 4, none, .mv (.k (.bool false))⟩]) .ret) .skip)) (.seq (.seq (.rg [⟨some 5, none, .mv (.k (.int .i64 0))⟩]) (.block 0 (.loop (.seq (.seq (.rg [⟨some 11, none, .mv (.t 5)⟩, ⟨some 12, none, .mv (.t 0)⟩, ⟨some 13, none, .len 1 (.t 12)⟩, ⟨some 14, none, .bin .lss .leaf (.t 11) (.t 13)⟩]) (.cond (.t 14) .skip (.exit 0))) (.seq (.block 1 (.seq (.rd [(⟨some 17, none, .mv (.t 0)⟩, none), (⟨some 18, none, .mv (.t 5)⟩, none), (⟨some 19, none, .ia 4 (.t 17) (.t 18)⟩, none), (⟨some 20, none, .ld 4 true (.t 19)⟩, none), (⟨some 21, none, .mv (.t 1)⟩, none), (⟨some 22, none, .mv (.t 5)⟩, none), (⟨some 23, none, .ia 4 (.t 21) (.t 22)⟩, none), (⟨some 24, none, .ld 4 true (.t 23)⟩, none), (⟨some 25, none, .bin .neq (.agg [(0, .i), (1, .i), (2, .i), (3, .i)]) (.t 20) (.t 24)⟩, none)]) (.cond (.t 25) (.seq (.rg [⟨some 4, none, .mv (.k (.bool false))⟩]) .ret) .skip))) (.rg [⟨some 15, none, .mv (.t 5)⟩, ⟨some 16, none, .bin .add .leaf (.t 15) (.k (.int .i64 1))⟩, ⟨some 5, none, .mv (.t 16)⟩])))))) (.seq (.rg [⟨some 4, none, .mv (.k (.bool true))⟩]) .ret)))⟩ := by kernel_rfl
theorem c20 : cFun E0.P 20 = some ⟨31, [(4, none)], .seq (.rg [⟨some 2, none, .box (.t 0) 32⟩, ⟨some 3, none, .box (.t 1) 32⟩, ⟨some 4, none, .mv (.k (.bool false))⟩]) (.seq (.rg [⟨some 5, none, .fa 0 (.t 2)⟩, ⟨some 6, none, .ld 1 false (.t 5)⟩, ⟨some 7, none, .fa 0 (.t 3)⟩, ⟨some 8, none, .ld 1 false (.t 7)⟩, ⟨some 9, none, .bin .eql .leaf (.t 6) (.t 8)⟩, ⟨some 10, none, .mv (.t 9)⟩, ⟨some 11, some (10, true), .fa 1 (.t 2)⟩, ⟨some 12, some (10, true), .ld 1 false (.t 11)⟩, ⟨some 13, some (10, true), .fa 1 (.t 3)⟩, ⟨some 14, some (10, true), .ld 1 false (.t 13)⟩, ⟨some 15, some (10, true), .bin .eql .leaf (.t 12) (.t 14)⟩, ⟨some 16, none, .pick (.t 10) (.t 15) (.k (.bool false))⟩, ⟨some 17, none, .mv (.t 16)⟩, ⟨some 18, some (17, true), .fa 2 (.t 2)⟩, ⟨some 19, some (17, true), .ld 1 false (.t 18)⟩, ⟨some 20, some (17, true), .fa 2 (.t 3)⟩, ⟨some 21, some (17, true), .ld 1 false (.t 20)⟩, ⟨some 22, some (17, true), .bin .eql .leaf (.t 19) (.t 21)⟩, ⟨some 23, none, .pick (.t 17) (.t 22) (.k (.bool false))⟩, ⟨some 24, none, .mv (.t 23)⟩, ⟨some 25, some (24, true), .fa 3 (.t 2)⟩, ⟨some 26, some (24, true), .ld 1 false (.t 25)⟩, ⟨some 27, some (24, true), .fa 3 (.t 3)⟩, ⟨some 28, some (24, true), .ld 1 false (.t 27)⟩, ⟨some 29, some (24, true), .call 41 [.t 26, .t 28]⟩, ⟨some 30, none, .pick (.t 24) (.t 29) (.k (.bool false))⟩, ⟨some 4, none, .mv (.t 30)⟩]) .ret)⟩ := by kernel_rfl
theorem c25 : cFun E0.P 25 = some ⟨26, [(4, none)], .seq (.rg [⟨some 4, none, .mv (.k (.bool false))⟩]) (.seq (.seq (.rg [⟨some 6, none, .mv (.t 0)⟩, ⟨some 7, none, .len 1 (.t 6)⟩, ⟨some 8, none, .mv (.t 1)⟩, ⟨some 9, none, .len 1 (.t 8)⟩, ⟨some 10, none, .bin .neq .leaf (.t 7) (.t 9)⟩]) (.cond (.t 10) (.seq (.rg [⟨some 4, none, .mv (.k (.bool false))⟩]) .ret) .skip)) (.seq (.seq (.rg [⟨some 5, none, .mv (.k (.int .i64 0))⟩]) (.block 0 (.loop (.seq (.seq (.rg [⟨some 11, none, .mv (.t 5)⟩, ⟨some 12, none, .mv (.t 0)⟩, ⟨some 13, none, .len 1 (.t 12)⟩, ⟨some 14, none, .bin .lss .leaf (.t 11) (.t 13)⟩]) (.cond (.t 14) .skip (.exit 0))) (.seq (.block 1 (.seq (.rd [(⟨some 17, none, .mv (.t 0)⟩, none), (⟨some 18, none, .mv (.t 5)⟩, none), (⟨some 19, none, .ia 1 (.t 17) (.t 18)⟩, none), (⟨some 20, none, .ld 1 false (.t 19)⟩, none), (⟨some 21, none, .mv (.t 1)⟩, none), (⟨some 22, none, .mv (.t 5)⟩, none), (⟨some 23, none, .ia 1 (.t 21) (.t 22)⟩, none), (⟨some 24, none, .ld 1 false (.t 23)⟩, none), (⟨some 25, none, .bin .neq .leaf (.t 20) (.t 24)⟩, none)]) (.cond (.t 25) (.seq (.rg [⟨some 4, none, .mv (.k (.bool false))⟩]) .ret) .skip))) (.rg [⟨some 15, none, .mv (.t 5)⟩, ⟨some 16, none, .bin .add .leaf (.t 15) (.k (.int .i64 1))⟩, ⟨some 5, none, .mv (.t 16)⟩])))))) (.seq (.rg [⟨some 4, none, .mv (.k (.bool true))⟩]) .ret)))⟩ := by kernel_rfl
theorem c71 : cFun E0.P 71 = some ⟨8, [(4, some (4, true))], .seq (.rg [⟨some 4, none, .alloc [.int .i64 0, .int .u64 0, .int .u64 0, .int .i64 0] 88⟩]) (.seq (.rg [⟨some 5, none, .mv (.t 0)⟩, ⟨some 6, none, .mv (.t 1)⟩, ⟨some 7, none, .build [.int .i64 0, .int .u64 0, .int .u64 0, .int .i64 0] [(0, 1, .t 5), (1, 1, .k (.int .u64 7)), (2, 1, .k (.int .u64 3)), (3, 1, .t 6)]⟩, ⟨none, none, .st 4 (.t 4) (.t 7)⟩]) .ret)⟩ := by kernel_rfl

theorem take_snA {α : Type} [Inhabited α] {l : List α} {i : Nat} (h : i < l.length) : l.take (i + 1) = l.take i ++ [l[i]!] := by
  rw [List.take_add_one, List.getElem?_eq_getElem h, getElem!_pos l i h]; rfl
theorem take_eq {α : Type} [Inhabited α] {a b : List α} {i : Nat} (ha : i < a.length) (hb : i < b.length) (h : a.take i = b.take i) (e : a[i]! = b[i]!) : a.take (i + 1) = b.take (i + 1) := by
  rw [take_snA ha, take_snA hb, h, e]
theorem ne_of_at {α : Type} [Inhabited α] {a b : List α} {i : Nat} (h : ¬ a[i]! = b[i]!) : ¬ a = b := fun e => h (by rw [e])
theorem iaD_i {l : List Int} {i : Nat} {n : Int} (h : n = i) (hi : i < l.length) : iaD 1 (.sl (i64s l)) (.int .i64 n) = some (.pe [.int .i64 l[i]!] 0) := by
  subst h
  exact iaD_i64s (by omega) (by rw [Int.toNat_natCast, List.getElem?_eq_getElem hi, getElem!_pos l i hi])
theorem iaD_ln {l : List Ln} {i : Nat} {n : Int} (h : n = i) (hi : i < l.length) : iaD 4 (.sl (lns l)) (.int .i64 n) = some (.pe (l[i]!).cs 0) := by
  subst h
  exact iaD_map (f := Ln.cs) (by omega) (by rw [Int.toNat_natCast, List.getElem?_eq_getElem hi, getElem!_pos l i hi]) rfl
def lnEq (x y : Ln) : Bool := decide (x.acc = y.acc) && (decide (x.cus = y.cus) && (decide (x.con = y.con) && (decide (x.amt = y.amt) && true)))
theorem ln_t {x y : Ln} (h : lnEq x y = true) : x = y := by
  simp only [lnEq, Bool.and_true, Bool.and_eq_true, decide_eq_true_eq] at h
  cases x; cases y
  simp_all
theorem ln_f {x y : Ln} (h : lnEq x y = false) : ¬ x = y := fun e => by subst e; simp [lnEq] at h
set_option maxHeartbeats 1000000 in
theorem sameI (a b : List Int) (ha : a.length < 4611686018427387904) (hb : b.length < 4611686018427387904) : Pure 25 [.sl (i64s a), .sl (i64s b)] (.bool (decide (a = b))) := by
  intro S tk
  have la := i64s_len a
  have lb := i64s_len b
  refine ACalls.fgo c25 rfl fun hS => ?_
  repeat' first | with_reducible refine fzD_ite (fun q => ?_) (fun q => ?_) | ((try conv => whnf); first
    | refine bs_d (fun q => ?_) (fun q => ?_)
    | refine bs_n ?_
    | refine bs_i (fun q => ?_) (fun q => ?_)
    | refine eqk rfl ?_
    | refine ffin _ rfl rfl hS (Sub.refl _) rfl ⟨?_, rfl, rfl⟩)
  rotate_left
  · exact congrArg D.bool (decide_eq_false (fun e => by subst e; omega)).symm
  conv => whnf
  have hl : a.length = b.length := by omega
  refine floop (α := Nat) rfl rfl hS (fun i => i ≤ a.length ∧ a.take i = b.take i) (fun i => a.length - i) (fun i => [(5, .d (.int .i64 i)), (0, .d (.sl (i64s a))), (1, .d (.sl (i64s b)))]) (fun _ => []) (fun _ => []) 0 ⟨Nat.zero_le _, rfl⟩ (fstep_sub ⟨Sub.refl _, Sub.refl _, Sub.refl _, trivial⟩) ?_
  rintro i ⟨h1, h2⟩
  repeat' first | with_reducible refine fzD_ite (fun q => ?_) (fun q => ?_) | ((try conv => whnf); first
    | refine bs_d (fun q => ?_) (fun q => ?_) <;> (try simp (disch := ((try unfold I64); omega)) only [wi64_id, td] at q)
    | refine bs_n ?_
    | refine bs_i (fun q => ?_) (fun q => ?_)
    | refine pK_i (iaD_i (i := i) (by first | rfl | omega | (refine Int.sub_eq_zero.mp ?_; simp (disch := ((try unfold I64); omega)) only [wi64_id, td]; omega)) (by omega)) ?_
    | refine eqk rfl ?_
    | refine ffin _ rfl rfl hS (Sub.refl _) rfl ⟨?_, rfl, rfl⟩)
  · conv => whnf
    refine fnext (α := Nat) (i + 1) ⟨by omega, take_eq (by omega) (by omega) h2 (by assumption)⟩ (by omega) (fstep_sub ⟨Sub.int (by rw [wi64_id]; omega; unfold I64; omega), Sub.refl _, Sub.refl _, trivial⟩)
  · exact congrArg D.bool (decide_eq_false (ne_of_at (i := i) (by assumption))).symm
  · rw [List.take_of_length_le (by omega), List.take_of_length_le (by omega)] at h2
    exact congrArg D.bool (decide_eq_true h2).symm
set_option maxHeartbeats 1000000 in
theorem sameL (a b : List Ln) (ha : a.length < 4611686018427387904) (hb : b.length < 4611686018427387904) : Pure 41 [.sl (lns a), .sl (lns b)] (.bool (decide (a = b))) := by
  intro S tk
  have la := lns_len a
  have lb := lns_len b
  refine ACalls.fgo c41 rfl fun hS => ?_
  repeat' first | with_reducible refine fzD_ite (fun q => ?_) (fun q => ?_) | ((try conv => whnf); first
    | refine bs_d (fun q => ?_) (fun q => ?_)
    | refine bs_n ?_
    | refine bs_i (fun q => ?_) (fun q => ?_)
    | refine eqk rfl ?_
    | refine ffin _ rfl rfl hS (Sub.refl _) rfl ⟨?_, rfl, rfl⟩)
  rotate_left
  · exact congrArg D.bool (decide_eq_false (fun e => by subst e; omega)).symm
  conv => whnf
  have hl : a.length = b.length := by omega
  refine floop (α := Nat) rfl rfl hS (fun i => i ≤ a.length ∧ a.take i = b.take i) (fun i => a.length - i) (fun i => [(5, .d (.int .i64 i)), (0, .d (.sl (lns a))), (1, .d (.sl (lns b)))]) (fun _ => []) (fun _ => []) 0 ⟨Nat.zero_le _, rfl⟩ (fstep_sub ⟨Sub.refl _, Sub.refl _, Sub.refl _, trivial⟩) ?_
  rintro i ⟨h1, h2⟩
  repeat' first | with_reducible refine fzD_ite (fun q => ?_) (fun q => ?_) | ((try conv => whnf); first
    | refine bs_d (fun q => ?_) (fun q => ?_) <;> (try simp (disch := ((try unfold I64); omega)) only [wi64_id, td] at q)
    | refine bs_n ?_
    | refine bs_i (fun q => ?_) (fun q => ?_)
    | refine pK_i (iaD_ln (i := i) (by first | rfl | omega | (refine Int.sub_eq_zero.mp ?_; simp (disch := ((try unfold I64); omega)) only [wi64_id, td]; omega)) (by omega)) ?_
    | refine eqk rfl ?_
    | refine ffin _ rfl rfl hS (Sub.refl _) rfl ⟨?_, rfl, rfl⟩)
  · conv => whnf
    refine fnext (α := Nat) (i + 1) ⟨by omega, take_eq (by omega) (by omega) h2 (ln_t (by assumption))⟩ (by omega) (fstep_sub ⟨Sub.int (by rw [wi64_id]; omega; unfold I64; omega), Sub.refl _, Sub.refl _, trivial⟩)
  · exact congrArg D.bool (decide_eq_false (ne_of_at (i := i) (ln_f (by assumption)))).symm
  · rw [List.take_of_length_le (by omega), List.take_of_length_le (by omega)] at h2
    exact congrArg D.bool (decide_eq_true h2).symm
theorem sameE (e : En) (L : List Ln) (hl : L.length < 4611686018427387904) : Pure 20 [entD e L, entD e L] (.bool true) := by
  intro S tk
  have h := sameL L L hl hl
  rw [decide_eq_true rfl] at h
  refine ACalls.fgo c20 rfl fun hS => ?_
  repeat' first | with_reducible refine fzD_ite (fun q => ?_) (fun q => ?_) | ((try conv => whnf); first
    | refine bs_t (decide_eq_true rfl) ?_
    | refine bs_d (fun q => ?_) (fun q => ?_)
    | refine bs_n ?_
    | refine bs_i (fun q => ?_) (fun q => ?_)
    | refine ck (by first | rfl | simp) rfl (h) ?_
    | refine cq (h) ?_
    | refine eqk rfl ?_
    | refine ffin _ rfl rfl hS (Sub.refl _) rfl ⟨?_, rfl, rfl⟩)
  all_goals rfl
theorem sameZ : Pure 20 [zeroE, zeroE] (.bool true) := fun S tk =>
  (sameE ⟨0, 0, 0⟩ [] (by simp) S tk).sub (.cons (Sub.agg (.cons (Sub.refl _) (.cons (Sub.refl _) (.cons (Sub.refl _) (.cons (Sub.rd (es := lns []) rfl) .nil))))) (.cons (Sub.agg (.cons (Sub.refl _) (.cons (Sub.refl _) (.cons (Sub.refl _) (.cons (Sub.rd (es := lns []) rfl) .nil))))) .nil))
theorem lineC (a n : Int) : Pure 71 [.int .i64 a, .int .i64 n] (Ln.d ⟨a, 7, 3, n⟩) := by
  intro S tk
  refine ACalls.fgo c71 rfl fun hS => ?_
  repeat' first | with_reducible refine fzD_ite (fun q => ?_) (fun q => ?_) | ((try conv => whnf); first
    | refine bs_d (fun q => ?_) (fun q => ?_)
    | refine bs_n ?_
    | refine bs_i (fun q => ?_) (fun q => ?_)
    | refine eqk rfl ?_
    | refine ffin _ rfl rfl hS (Sub.refl _) rfl ⟨?_, rfl, rfl⟩)
  all_goals rfl
end Go.KL.Ytgdidchpignbpaa

/- notes.Spread: which invoices may be, which stands ahead -/
set_option linter.unusedVariables false
set_option linter.unusedSimpArgs false
set_option linter.unusedSectionVars false
set_option maxRecDepth 4000
namespace Go.KL.Ytgdidchpignbpaa
open Go Go.KL Go.RowKit Go.Proofs

theorem c81 : cFun E0.P 81 = some ⟨6, [(2, none)], .seq (.rg [⟨some 1, none, .box (.t 0) 26⟩, ⟨some 2, none, .mv (.k (.bool false))⟩]) (.seq (.rg [⟨some 3, none, .ld 11 true (.t 1)⟩, ⟨some 4, none, .call 72 [.t 3]⟩, ⟨some 5, none, .bin .neq .leaf (.t 4) (.k (.int .i64 0))⟩, ⟨some 2, none, .mv (.t 5)⟩]) .ret)⟩ := by kernel_rfl
theorem c83 : cFun E0.P 83 = some ⟨17, [(4, none)], .seq (.rg [⟨some 2, none, .box (.t 0) 26⟩, ⟨some 3, none, .box (.t 1) 26⟩, ⟨some 4, none, .mv (.k (.int .i64 0))⟩]) (.seq (.rd [(⟨some 5, none, .fa 3 (.t 3)⟩, none), (⟨some 6, none, .ld 1 false (.t 5)⟩, none), (⟨some 7, none, .fa 3 (.t 2)⟩, none), (⟨some 8, none, .ld 1 false (.t 7)⟩, none), (⟨some 9, none, .bin .sub .leaf (.t 6) (.t 8)⟩, none), (⟨some 10, none, .fa 0 (.t 3)⟩, none), (⟨some 11, none, .ld 1 false (.t 10)⟩, none), (⟨some 12, none, .fa 0 (.t 2)⟩, none), (⟨some 13, none, .ld 1 false (.t 12)⟩, none), (⟨some 14, none, .call 85 [.t 11, .t 13]⟩, none), (⟨some 15, none, .buildS 2 1 [.int .i64 0] [(0, .t 9), (1, .t 14)] 3⟩, none), (⟨some 16, none, .call 84 [.t 15]⟩, some []), (⟨some 4, none, .mv (.t 16)⟩, none)]) .ret)⟩ := by kernel_rfl
theorem c84 : cFun E0.P 84 = some ⟨18, [(2, none)], .seq (.rg [⟨some 2, none, .mv (.k (.int .i64 0))⟩]) (.seq (.rg [⟨some 3, none, .mv (.k (.int .i64 0))⟩]) (.seq (.seq (.rg [⟨some 6, none, .mv (.t 0)⟩, ⟨some 7, none, .len 1 (.t 6)⟩, ⟨some 8, none, .mv (.k (.int .i64 0))⟩]) (.block 0 (.loop (.seq (.rg [⟨some 9, none, .bin .lss .leaf (.t 8) (.t 7)⟩]) (.seq (.cond (.t 9) .skip (.exit 0)) (.seq (.block 1 (.seq (.rg [⟨some 10, none, .ia 1 (.t 6) (.t 8)⟩, ⟨some 11, none, .ld 1 false (.t 10)⟩, ⟨some 5, none, .mv (.t 11)⟩]) (.seq (.rg [⟨some 12, none, .mv (.t 5)⟩, ⟨some 13, none, .mv (.t 3)⟩, ⟨some 14, none, .bin .neq .leaf (.t 12) (.t 13)⟩]) (.cond (.t 14) (.seq (.rg [⟨some 15, none, .mv (.t 5)⟩, ⟨some 2, none, .mv (.t 15)⟩]) .ret) .skip)))) (.rg [⟨some 16, none, .bin .add .leaf (.t 8) (.k (.int .i64 1))⟩, ⟨some 8, none, .mv (.t 16)⟩]))))))) (.seq (.rg [⟨some 17, none, .mv (.t 3)⟩, ⟨some 2, none, .mv (.t 17)⟩]) .ret)))⟩ := by kernel_rfl
theorem c135 : cFun E0.P 135 = some ⟨19, [(4, none)], .seq (.rg [⟨some 4, none, .mv (.k (.int .i64 0))⟩]) (.seq (.seq (.rg [⟨some 6, none, .mv (.t 0)⟩, ⟨some 7, none, .len 1 (.t 6)⟩, ⟨some 8, none, .mv (.k (.int .i64 0))⟩]) (.block 0 (.loop (.seq (.rg [⟨some 9, none, .bin .lss .leaf (.t 8) (.t 7)⟩]) (.seq (.cond (.t 9) .skip (.exit 0)) (.seq (.block 1 (.seq (.rg [⟨some 10, none, .mv (.t 8)⟩, ⟨some 5, none, .mv (.t 10)⟩]) (.seq (.rg [⟨some 11, none, .mv (.t 1)⟩, ⟨some 12, none, .mv (.t 0)⟩, ⟨some 13, none, .mv (.t 5)⟩, ⟨some 14, none, .ia 11 (.t 12) (.t 13)⟩, ⟨some 15, none, .ld 11 true (.t 14)⟩, ⟨some 16, none, .callv (.t 11) [.t 15]⟩]) (.cond (.t 16) (.seq (.rg [⟨some 17, none, .mv (.t 5)⟩, ⟨some 4, none, .mv (.t 17)⟩]) .ret) .skip)))) (.rg [⟨some 18, none, .bin .add .leaf (.t 8) (.k (.int .i64 1))⟩, ⟨some 8, none, .mv (.t 18)⟩]))))))) (.seq (.rg [⟨some 4, none, .mv (.k (.int .i64 (-1)))⟩]) .ret))⟩ := by kernel_rfl
theorem c80 : cFun E0.P 80 = some ⟨9, [(4, none)], .seq (.rg [⟨some 4, none, .mv (.k (.bool false))⟩]) (.seq (.rg [⟨some 5, none, .mv (.t 0)⟩, ⟨some 6, none, .mv (.t 1)⟩, ⟨some 7, none, .call 135 [.t 5, .t 6]⟩, ⟨some 8, none, .bin .geq .leaf (.t 7) (.k (.int .i64 0))⟩, ⟨some 4, none, .mv (.t 8)⟩]) .ret)⟩ := by kernel_rfl
theorem c137 : cFun E0.P 137 = some ⟨22, [(6, none)], .seq (.rg [⟨some 6, none, .mv (.k (.int .i64 0))⟩]) (.seq (.rd [(⟨some 7, none, .ld 1 false (.t 2)⟩, none), (⟨some 8, none, .ld 1 false (.t 3)⟩, none), (⟨some 9, none, .mv (.t 0)⟩, none), (⟨some 10, none, .ia 11 (.t 8) (.t 9)⟩, none), (⟨some 11, none, .ld 11 true (.t 10)⟩, none), (⟨some 12, none, .ld 1 false (.t 3)⟩, none), (⟨some 13, none, .mv (.t 1)⟩, none), (⟨some 14, none, .ia 11 (.t 12) (.t 13)⟩, none), (⟨some 15, none, .ld 11 true (.t 14)⟩, none), (⟨some 17, none, .mv (.t 1)⟩, none), (⟨some 18, none, .mv (.t 0)⟩, none), (⟨some 19, none, .bin .sub .leaf (.t 17) (.t 18)⟩, none), (⟨some 16, none, .callv (.t 7) [.t 11, .t 15]⟩, some []), (⟨some 20, none, .buildS 2 1 [.int .i64 0] [(0, .t 16), (1, .t 19)] 3⟩, none), (⟨some 21, none, .call 84 [.t 20]⟩, some []), (⟨some 6, none, .mv (.t 21)⟩, none)]) .ret)⟩ := by kernel_rfl

instance : Inhabited Iv := ⟨Iv.zero⟩
def ivs (l : List Iv) : List (List D) := l.map Iv.cs
theorem ivs_len (l : List Iv) : (ivs l).length = l.length := List.length_map ..
theorem iaD_iv {l : List Iv} {k : IntKind} {i : Nat} {n : Int} (h : n = i) (hi : i < l.length) : iaD 11 (.sl (ivs l)) (.int k n) = some (.pe (l[i]!).cs 0) := by
  subst h
  exact iaD_map (f := Iv.cs) (by omega) (by rw [Int.toNat_natCast, List.getElem?_eq_getElem hi, getElem!_pos l i hi]) rfl
theorem mem_at {α : Type} [Inhabited α] {l : List α} {i : Nat} (h : i < l.length) : l[i]! ∈ l := by rw [getElem!_pos l i h]; exact List.getElem_mem h
theorem spread1 (x : Iv) (hx : x.R) : Pure 81 [x.d] (.bool (decide (¬ x.ok))) := by
  intro S tk
  have hc := Check x hx
  by_cases h : x.ok
  · rw [if_pos h] at hc
    refine ACalls.fgo c81 rfl fun hS => ?_
    repeat' first | with_reducible refine fzD_ite (fun q => ?_) (fun q => ?_) | ((try conv => whnf); first
      | refine bs_d (fun q => ?_) (fun q => ?_)
      | refine bs_n ?_
      | refine bs_i (fun q => ?_) (fun q => ?_)
      | refine ck (by first | rfl | simp) rfl (hc) ?_
      | refine cq (hc) ?_
      | refine eqk rfl ?_
      | refine ffin _ rfl rfl hS (Sub.refl _) rfl ⟨?_, rfl, rfl⟩)
    simp [h]; rfl
  · rw [if_neg h] at hc
    refine ACalls.fgo c81 rfl fun hS => ?_
    repeat' first | with_reducible refine fzD_ite (fun q => ?_) (fun q => ?_) | ((try conv => whnf); first
      | refine bs_d (fun q => ?_) (fun q => ?_)
      | refine bs_n ?_
      | refine bs_i (fun q => ?_) (fun q => ?_)
      | refine ck (by first | rfl | simp) rfl (hc) ?_
      | refine cq (hc) ?_
      | refine eqk rfl ?_
      | refine ffin _ rfl rfl hS (Sub.refl _) rfl ⟨?_, rfl, rfl⟩)
    simp [h]; rfl
theorem or2 (a b : Int) : Pure 84 [.sl (i64s [a, b])] (.int .i64 (ordI [a, b])) := by
  intro S tk
  refine ACalls.fgo c84 rfl fun hS => ?_
  repeat' first | with_reducible refine fzD_ite (fun q => ?_) (fun q => ?_) | ((try conv => whnf); first
    | refine bs_d (fun q => ?_) (fun q => ?_)
    | refine bs_n ?_
    | refine bs_i (fun q => ?_) (fun q => ?_)
    | refine eqk rfl ?_
    | refine ffin _ rfl rfl hS (Sub.refl _) rfl ⟨?_, rfl, rfl⟩)
  refine floop (α := Nat) rfl rfl hS (fun i => i ≤ 2 ∧ ordI ([a, b].drop i) = ordI [a, b]) (fun i => 2 - i) (fun i => [(8, .d (.int .i64 i)), (6, .d (.sl (i64s [a, b]))), (7, .d (.int .i64 ((2 : Nat) : Int))), (3, .d (.int .i64 0))]) (fun _ => []) (fun _ => []) 0 ⟨by omega, rfl⟩ (fstep_sub ⟨Sub.refl _, Sub.refl _, Sub.refl _, Sub.refl _, trivial⟩) ?_
  rintro i ⟨hi, hp⟩
  have : i = 0 ∨ i = 1 ∨ i = 2 := by omega
  rcases this with rfl | rfl | rfl
  · skip
    repeat' first | with_reducible refine fzD_ite (fun q => ?_) (fun q => ?_) | ((try conv => whnf); first
      | refine bs_d (fun q => ?_) (fun q => ?_)
      | refine bs_n ?_
      | refine bs_i (fun q => ?_) (fun q => ?_)
      | refine pK_i (iaD_i64s (a := a) (by omega) rfl) ?_
      | refine eqk rfl ?_
      | refine ffin _ rfl rfl hS (Sub.refl _) rfl ⟨?_, rfl, rfl⟩)
    · have hq : a = 0 := q
      conv => whnf
      refine fnext (α := Nat) 1 ⟨by omega, by simp [ordI, hq]⟩ (by omega) (fstep_sub ⟨Sub.int (by first | rfl | omega | (refine Int.sub_eq_zero.mp ?_; simp (disch := ((try unfold I64); omega)) only [wi64_id, td]; omega)), Sub.refl _, Sub.refl _, Sub.refl _, trivial⟩)
    · have hq : a ≠ 0 := q
      simp [tupD, ordI, hq]
  · skip
    repeat' first | with_reducible refine fzD_ite (fun q => ?_) (fun q => ?_) | ((try conv => whnf); first
      | refine bs_d (fun q => ?_) (fun q => ?_)
      | refine bs_n ?_
      | refine bs_i (fun q => ?_) (fun q => ?_)
      | refine pK_i (iaD_i64s (a := b) (by omega) rfl) ?_
      | refine eqk rfl ?_
      | refine ffin _ rfl rfl hS (Sub.refl _) rfl ⟨?_, rfl, rfl⟩)
    · have hq : b = 0 := q
      conv => whnf
      refine fnext (α := Nat) 2 ⟨by omega, by rw [← hp]; simp [ordI, hq]⟩ (by omega) (fstep_sub ⟨Sub.int (by first | rfl | omega | (refine Int.sub_eq_zero.mp ?_; simp (disch := ((try unfold I64); omega)) only [wi64_id, td]; omega)), Sub.refl _, Sub.refl _, Sub.refl _, trivial⟩)
    · have hq : b ≠ 0 := q
      rw [← hp]
      simp [tupD, ordI, hq]
  · skip
    repeat' first | with_reducible refine fzD_ite (fun q => ?_) (fun q => ?_) | ((try conv => whnf); first
      | refine bs_d (fun q => ?_) (fun q => ?_)
      | refine bs_n ?_
      | refine bs_i (fun q => ?_) (fun q => ?_)
      | refine eqk rfl ?_
      | refine ffin _ rfl rfl hS (Sub.refl _) rfl ⟨?_, rfl, rfl⟩)
    rw [← hp]; rfl
def latI (a b : Iv) : Int := ordI [b.day - a.day, cmpI b.id a.id]
theorem spread2 (a b : Iv) (ha : a.ok) (hb : b.ok) : Pure 83 [a.d, b.d] (.int .i64 (latI a b)) := by
  intro S tk
  have h1 := ha.1
  have h2 := hb.1
  have hw : IntKind.wrap .i64 (b.day - a.day) = b.day - a.day := wi64_id (by unfold I64; omega)
  have ho := or2 (b.day - a.day) (cmpI b.id a.id)
  rw [← hw] at ho
  rw [show latI a b = ordI [IntKind.wrap .i64 (b.day - a.day), cmpI b.id a.id] from by rw [hw]; rfl]
  refine ACalls.fgo c83 rfl fun hS => ?_
  repeat' first | with_reducible refine fzD_ite (fun q => ?_) (fun q => ?_) | ((try conv => whnf); first
    | refine bs_d (fun q => ?_) (fun q => ?_)
    | refine bs_n ?_
    | refine bs_i (fun q => ?_) (fun q => ?_)
    | refine ck (by first | rfl | simp) rfl (compareU _ _) ?_
    | refine cq (compareU _ _) ?_
    | refine ck (by first | rfl | simp) rfl (ho) ?_
    | refine cq (ho) ?_
    | refine eqk rfl ?_
    | refine ffin _ rfl rfl hS (Sub.refl _) rfl ⟨?_, rfl, rfl⟩)
  all_goals rfl
theorem indexF (l : List Iv) (hl : l.length < 4611686018427387904) (hx : ∀ x ∈ l, x.R) (S : List O) (tk : Tks) :
    ACalls E0 135 [.sl (ivs l), .fn 81 []] S tk (fun r S' tk' => (∃ k : Int, r = .int .i64 k ∧ (0 ≤ k ↔ ∃ x ∈ l, ¬ x.ok)) ∧ S' = S ∧ tk' = tk) := by
  have hlen := ivs_len l
  refine ACalls.fgo c135 rfl fun hS => ?_
  repeat' first | with_reducible refine fzD_ite (fun q => ?_) (fun q => ?_) | ((try conv => whnf); first
    | refine bs_d (fun q => ?_) (fun q => ?_)
    | refine bs_n ?_
    | refine bs_i (fun q => ?_) (fun q => ?_)
    | refine eqk rfl ?_
    | refine ffin _ rfl rfl hS (Sub.refl _) rfl ⟨?_, rfl, rfl⟩)
  refine floop (α := Nat) rfl rfl hS (fun i => i ≤ l.length ∧ ∀ x ∈ l.take i, x.ok) (fun i => l.length - i) (fun i => [(8, .d (.int .i64 i)), (6, .d (.sl (ivs l))), (7, .d (.int .i64 l.length)), (0, .d (.sl (ivs l))), (1, .d (.fn 81 []))]) (fun _ => []) (fun _ => []) 0 ⟨by omega, by simp⟩ (fstep_sub ⟨Sub.refl _, Sub.refl _, Sub.int (by rw [hlen]), Sub.refl _, Sub.refl _, trivial⟩) ?_
  rintro i ⟨hi, hp⟩
  by_cases hlt : i < l.length
  · have hs := spread1 l[i]! (hx _ (mem_at hlt))
    by_cases hok : l[i]!.ok
    · rw [decide_eq_false (by simpa using hok)] at hs
      repeat' first | with_reducible refine fzD_ite (fun q => ?_) (fun q => ?_) | ((try conv => whnf); first
        | refine bs_t (decide_eq_true (by omega)) ?_
        | refine bs_d (fun q => ?_) (fun q => ?_)
        | refine bs_n ?_
        | refine bs_i (fun q => ?_) (fun q => ?_)
        | refine pK_i (iaD_iv (i := i) (by first | rfl | omega | (refine Int.sub_eq_zero.mp ?_; simp (disch := ((try unfold I64); omega)) only [wi64_id, td]; omega)) hlt) ?_
        | refine ck (by first | rfl | simp) rfl (hs) ?_
        | refine cq (hs) ?_
        | refine eqk rfl ?_
        | refine ffin _ rfl rfl hS (Sub.refl _) rfl ⟨?_, rfl, rfl⟩)
      conv => whnf
      refine fnext (α := Nat) (i + 1) ⟨by omega, fun x hxm => ?_⟩ (by omega) (fstep_sub ⟨Sub.int (by first | rfl | omega | (refine Int.sub_eq_zero.mp ?_; simp (disch := ((try unfold I64); omega)) only [wi64_id, td]; omega)), Sub.refl _, Sub.refl _, Sub.refl _, Sub.refl _, trivial⟩)
      rw [take_snA hlt, List.mem_append, List.mem_singleton] at hxm
      rcases hxm with hxm | rfl
      · exact hp x hxm
      · exact hok
    · rw [decide_eq_true (by simpa using hok)] at hs
      repeat' first | with_reducible refine fzD_ite (fun q => ?_) (fun q => ?_) | ((try conv => whnf); first
        | refine bs_t (decide_eq_true (by omega)) ?_
        | refine bs_d (fun q => ?_) (fun q => ?_)
        | refine bs_n ?_
        | refine bs_i (fun q => ?_) (fun q => ?_)
        | refine pK_i (iaD_iv (i := i) (by first | rfl | omega | (refine Int.sub_eq_zero.mp ?_; simp (disch := ((try unfold I64); omega)) only [wi64_id, td]; omega)) hlt) ?_
        | refine ck (by first | rfl | simp) rfl (hs) ?_
        | refine cq (hs) ?_
        | refine eqk rfl ?_
        | refine ffin _ rfl rfl hS (Sub.refl _) rfl ⟨?_, rfl, rfl⟩)
      exact ⟨i, rfl, ⟨fun _ => ⟨_, mem_at hlt, hok⟩, fun _ => by omega⟩⟩
  · rw [List.take_of_length_le (by omega)] at hp
    repeat' first | with_reducible refine fzD_ite (fun q => ?_) (fun q => ?_) | ((try conv => whnf); first
      | refine bs_f (decide_eq_false (by omega)) ?_
      | refine bs_d (fun q => ?_) (fun q => ?_)
      | refine bs_n ?_
      | refine bs_i (fun q => ?_) (fun q => ?_)
      | refine eqk rfl ?_
      | refine ffin _ rfl rfl hS (Sub.refl _) rfl ⟨?_, rfl, rfl⟩)
    exact ⟨-1, rfl, ⟨fun h => by omega, fun ⟨x, h1, h2⟩ => absurd (hp x h1) h2⟩⟩
theorem containsF (l : List Iv) (hl : l.length < 4611686018427387904) (hx : ∀ x ∈ l, x.R) : Pure 80 [.sl (ivs l), .fn 81 []] (.bool (decide (∃ x ∈ l, ¬ x.ok))) := by
  intro S tk
  refine ACalls.fgo c80 rfl fun hS => ?_
  repeat' first | with_reducible refine fzD_ite (fun q => ?_) (fun q => ?_) | ((try conv => whnf); first
    | refine bs_d (fun q => ?_) (fun q => ?_)
    | refine bs_n ?_
    | refine bs_i (fun q => ?_) (fun q => ?_)
    | (refine ckE rfl rfl (indexF l hl hx) (SubL.refl _) ?_; rintro r ⟨k, rfl, hk⟩; skip)
    | refine eqk rfl ?_
    | refine ffin _ rfl rfl hS (Sub.refl _) rfl ⟨?_, rfl, rfl⟩)
  · exact congrArg D.bool (decide_eq_true (hk.1 (by assumption))).symm
  · exact congrArg D.bool (decide_eq_false (fun h => absurd (hk.2 h) (by assumption))).symm

def cmpO {N : Nat} (l : List Iv) (i k : Fin (N + 1)) : Int := ordI [latI l[i.val]! l[k.val]!, (k.val : Int) - i.val]
theorem orderedC {N : Nat} (l : List Iv) (hl : l.length = N + 1) (hN : N < 1099511627776) (hok : ∀ x ∈ l, x.ok) (ca cb : Nat) (S : List O) (tk : Tks) (i k : Fin (N + 1)) (ha : S[ca]? = some (.arr [.fn 83 []])) (hb : S[cb]? = some (.arr [.sl (ivs l)])) :
    ACalls E0 137 [CI.eD i, CI.eD k, .po ca 0, .po cb 0] S tk (fun r S' tk' => r = .int .i64 (cmpO l i k) ∧ S' = S ∧ tk' = tk) := by
  have h1 := i.isLt
  have h2 := k.isLt
  have hs := spread2 l[i.val]! l[k.val]! (hok _ (mem_at (by omega))) (hok _ (mem_at (by omega)))
  have hw : IntKind.wrap .i64 ((k.val : Int) - i.val) = (k.val : Int) - i.val := wi64_id (by unfold I64; omega)
  have ho := or2 (latI l[i.val]! l[k.val]!) ((k.val : Int) - i.val)
  rw [← hw] at ho
  rw [show cmpO l i k = ordI [latI l[i.val]! l[k.val]!, IntKind.wrap .i64 ((k.val : Int) - i.val)] from by rw [hw]; rfl]
  refine ACalls.fgo c137 rfl fun hS => ?_
  have la : ldO (S ++ []) ca 0 1 false = some (.fn 83 []) := ldO_old ha rfl
  have lb : ldO (S ++ []) cb 0 1 false = some (.sl (ivs l)) := ldO_old hb rfl
  repeat' first | with_reducible refine fzD_ite (fun q => ?_) (fun q => ?_) | ((try conv => whnf); first
    | refine bs_d (fun q => ?_) (fun q => ?_)
    | refine bs_n ?_
    | refine bs_i (fun q => ?_) (fun q => ?_)
    | refine pK_i la ?_
    | refine pK_i lb ?_
    | refine pK_i (iaD_iv (i := i.val) rfl (by omega)) ?_
    | refine pK_i (iaD_iv (i := k.val) rfl (by omega)) ?_
    | refine ck (by first | rfl | simp) rfl (hs) ?_
    | refine cq (hs) ?_
    | refine ck (by first | rfl | simp) rfl (ho) ?_
    | refine cq (ho) ?_
    | refine eqk rfl ?_
    | refine ffin _ rfl rfl hS (Sub.refl _) rfl ⟨?_, rfl, rfl⟩)
  all_goals rfl
end Go.KL.Ytgdidchpignbpaa
