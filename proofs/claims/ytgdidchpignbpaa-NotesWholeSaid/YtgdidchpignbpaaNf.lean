/- journal.Check of an entry that may be; the sum of an account's lines -/
import Derived.Test.YtgdidchpignbpaaNc
import Derived.Test.YtgdidchpignbpaaNd
set_option linter.unusedVariables false
set_option linter.unusedSimpArgs false
set_option linter.unusedSectionVars false
set_option maxRecDepth 4000
namespace Go.KL.Ytgdidchpignbpaa
open Go Go.KL Go.RowKit Go.Proofs

theorem c89 : cFun E0.P 89 = some ⟨29, [(4, none), (5, none)], .seq (.rg [⟨some 4, none, .mv (.k (.int .i64 0))⟩, ⟨some 5, none, .mv (.k (.bool false))⟩]) (.seq (.rg [⟨some 6, none, .mv (.k .nilsl)⟩]) (.seq (.seq (.rg [⟨some 9, none, .mv (.t 0)⟩, ⟨some 10, none, .len 1 (.t 9)⟩, ⟨some 11, none, .mv (.k (.int .i64 0))⟩]) (.block 0 (.loop (.seq (.rg [⟨some 12, none, .bin .lss .leaf (.t 11) (.t 10)⟩]) (.seq (.cond (.t 12) .skip (.exit 0)) (.seq (.block 1 (.seq (.rg [⟨some 13, none, .ia 4 (.t 9) (.t 11)⟩, ⟨some 14, none, .ld 4 true (.t 13)⟩, ⟨some 8, none, .alloc [.int .i64 0, .int .u64 0, .int .u64 0, .int .i64 0] 88⟩, ⟨none, none, .st 4 (.t 8) (.t 14)⟩]) (.seq (.rg [⟨some 15, none, .mv (.t 1)⟩, ⟨some 16, none, .fa 3 (.t 8)⟩, ⟨some 17, none, .ld 1 false (.t 16)⟩, ⟨some 18, none, .callv (.t 15) [.t 17]⟩]) (.cond (.t 18) (.rg [⟨some 19, none, .mv (.t 6)⟩, ⟨some 20, none, .fa 3 (.t 8)⟩, ⟨some 21, none, .ld 1 false (.t 20)⟩, ⟨some 22, none, .buildS 1 1 [.int .i64 0] [(0, .t 21)] 2⟩, ⟨some 23, none, .app 47 2 1 8 [.int .i64 0] (.t 19) (.t 22)⟩, ⟨some 6, none, .mv (.t 23)⟩]) .skip)))) (.rg [⟨some 24, none, .bin .add .leaf (.t 11) (.k (.int .i64 1))⟩, ⟨some 11, none, .mv (.t 24)⟩]))))))) (.seq (.rg [⟨some 25, none, .mv (.t 6)⟩, ⟨some 26, none, .call 101 [.t 25]⟩, ⟨some 27, none, .ext 0 (.t 26)⟩, ⟨some 28, none, .ext 1 (.t 26)⟩, ⟨some 4, none, .mv (.t 27)⟩, ⟨some 5, none, .mv (.t 28)⟩]) .ret)))⟩ := by kernel_rfl
theorem c90 : cFun E0.P 90 = some ⟨3, [(2, none)], .seq (.rg [⟨some 2, none, .mv (.k (.bool false))⟩]) (.seq (.rg [⟨some 2, none, .mv (.k (.bool true))⟩]) .ret)⟩ := by kernel_rfl
theorem c29 : cFun E0.P 29 = some ⟨55, [(2, none)], .seq (.rg [⟨some 1, none, .box (.t 0) 32⟩, ⟨some 2, none, .mv (.k (.int .i64 0))⟩]) (.seq (.seq (.rg [⟨some 7, none, .fa 0 (.t 1)⟩, ⟨some 8, none, .ld 1 false (.t 7)⟩, ⟨some 9, none, .bin .lss .leaf (.t 8) (.k (.int .i64 1))⟩, ⟨some 10, none, .mv (.t 9)⟩, ⟨some 11, some (10, false), .fa 0 (.t 1)⟩, ⟨some 12, some (10, false), .ld 1 false (.t 11)⟩, ⟨some 13, some (10, false), .bin .gtr .leaf (.t 12) (.k (.int .i64 3652059))⟩, ⟨some 14, none, .pick (.t 10) (.k (.bool true)) (.t 13)⟩, ⟨some 15, none, .mv (.t 14)⟩, ⟨some 16, some (15, false), .fa 1 (.t 1)⟩, ⟨some 17, some (15, false), .ld 1 false (.t 16)⟩, ⟨some 18, some (15, false), .bin .eql .leaf (.t 17) (.k (.int .u8 0))⟩, ⟨some 19, none, .pick (.t 15) (.k (.bool true)) (.t 18)⟩, ⟨some 20, none, .mv (.t 19)⟩, ⟨some 21, some (20, false), .fa 3 (.t 1)⟩, ⟨some 22, some (20, false), .ld 1 false (.t 21)⟩, ⟨some 23, some (20, false), .len 1 (.t 22)⟩, ⟨some 24, some (20, false), .bin .lss .leaf (.t 23) (.k (.int .i64 2))⟩, ⟨some 25, none, .pick (.t 20) (.k (.bool true)) (.t 24)⟩, ⟨some 26, none, .mv (.t 25)⟩, ⟨some 27, some (26, false), .fa 3 (.t 1)⟩, ⟨some 28, some (26, false), .ld 1 false (.t 27)⟩, ⟨some 29, some (26, false), .len 1 (.t 28)⟩, ⟨some 30, some (26, false), .bin .gtr .leaf (.t 29) (.k (.int .i64 64))⟩, ⟨some 31, none, .pick (.t 26) (.k (.bool true)) (.t 30)⟩]) (.cond (.t 31) (.seq (.rg [⟨some 2, none, .mv (.k (.int .i64 2))⟩]) .ret) .skip)) (.seq (.seq (.rg [⟨some 32, none, .fa 3 (.t 1)⟩, ⟨some 33, none, .ld 1 false (.t 32)⟩, ⟨some 34, none, .len 1 (.t 33)⟩, ⟨some 35, none, .mv (.k (.int .i64 0))⟩]) (.block 0 (.loop (.seq (.rg [⟨some 36, none, .bin .lss .leaf (.t 35) (.t 34)⟩]) (.seq (.cond (.t 36) .skip (.exit 0)) (.seq (.block 1 (.seq (.rg [⟨some 37, none, .ia 4 (.t 33) (.t 35)⟩, ⟨some 38, none, .ld 4 true (.t 37)⟩, ⟨some 4, none, .alloc [.int .i64 0, .int .u64 0, .int .u64 0, .int .i64 0] 88⟩, ⟨none, none, .st 4 (.t 4) (.t 38)⟩]) (.seq (.rg [⟨some 39, none, .ld 4 true (.t 4)⟩, ⟨some 40, none, .call 88 [.t 39]⟩, ⟨some 41, none, .un .not (.t 40)⟩]) (.cond (.t 41) (.seq (.rg [⟨some 2, none, .mv (.k (.int .i64 2))⟩]) .ret) .skip)))) (.rg [⟨some 42, none, .bin .add .leaf (.t 35) (.k (.int .i64 1))⟩, ⟨some 35, none, .mv (.t 42)⟩]))))))) (.seq (.seq (.rg [⟨some 44, none, .fa 3 (.t 1)⟩, ⟨some 45, none, .ld 1 false (.t 44)⟩, ⟨some 46, none, .call 89 [.t 45, .k (.fn 90 [])]⟩, ⟨some 43, none, .mv (.t 46)⟩, ⟨some 47, none, .ext 0 (.t 43)⟩, ⟨some 48, none, .ext 1 (.t 43)⟩, ⟨some 5, none, .mv (.t 47)⟩, ⟨some 6, none, .mv (.t 48)⟩]) (.seq (.rg [⟨some 49, none, .mv (.t 5)⟩, ⟨some 50, none, .bin .neq .leaf (.t 49) (.k (.int .i64 0))⟩, ⟨some 51, none, .mv (.t 50)⟩, ⟨some 52, some (51, false), .mv (.t 6)⟩, ⟨some 53, some (51, false), .un .not (.t 52)⟩, ⟨some 54, none, .pick (.t 51) (.k (.bool true)) (.t 53)⟩]) (.cond (.t 54) (.seq (.rg [⟨some 2, none, .mv (.k (.int .i64 200))⟩]) .ret) .skip))) (.seq (.rg [⟨some 2, none, .mv (.k (.int .i64 0))⟩]) .ret))))⟩ := by kernel_rfl
theorem c30 : cFun E0.P 30 = some ⟨31, [(4, none)], .seq (.rg [⟨some 2, none, .box (.t 0) 32⟩, ⟨some 4, none, .mv (.k (.int .i64 0))⟩]) (.seq (.rg [⟨some 5, none, .mv (.k (.int .i64 0))⟩]) (.seq (.seq (.rg [⟨some 6, none, .mv (.k (.int .i64 0))⟩]) (.block 0 (.loop (.seq (.seq (.rg [⟨some 7, none, .mv (.t 6)⟩, ⟨some 8, none, .fa 3 (.t 2)⟩, ⟨some 9, none, .ld 1 false (.t 8)⟩, ⟨some 10, none, .len 1 (.t 9)⟩, ⟨some 11, none, .bin .lss .leaf (.t 7) (.t 10)⟩]) (.cond (.t 11) .skip (.exit 0))) (.seq (.block 1 (.seq (.rg [⟨some 14, none, .fa 3 (.t 2)⟩, ⟨some 15, none, .ld 1 false (.t 14)⟩, ⟨some 16, none, .mv (.t 6)⟩, ⟨some 17, none, .ia 4 (.t 15) (.t 16)⟩, ⟨some 18, none, .fa 0 (.t 17)⟩, ⟨some 19, none, .ld 1 false (.t 18)⟩, ⟨some 20, none, .mv (.t 1)⟩, ⟨some 21, none, .bin .eql .leaf (.t 19) (.t 20)⟩]) (.cond (.t 21) (.rg [⟨some 22, none, .mv (.t 5)⟩, ⟨some 23, none, .fa 3 (.t 2)⟩, ⟨some 24, none, .ld 1 false (.t 23)⟩, ⟨some 25, none, .mv (.t 6)⟩, ⟨some 26, none, .ia 4 (.t 24) (.t 25)⟩, ⟨some 27, none, .fa 3 (.t 26)⟩, ⟨some 28, none, .ld 1 false (.t 27)⟩, ⟨some 29, none, .bin .add .leaf (.t 22) (.t 28)⟩, ⟨some 5, none, .mv (.t 29)⟩]) .skip))) (.rg [⟨some 12, none, .mv (.t 6)⟩, ⟨some 13, none, .bin .add .leaf (.t 12) (.k (.int .i64 1))⟩, ⟨some 6, none, .mv (.t 13)⟩])))))) (.seq (.rg [⟨some 30, none, .mv (.t 5)⟩, ⟨some 4, none, .mv (.t 30)⟩]) .ret)))⟩ := by kernel_rfl

theorem chk1 (n : Int) : Pure 90 [.int .i64 n] (.bool true) := by
  intro S tk
  refine ACalls.fgo c90 rfl fun hS => ?_
  repeat' first | with_reducible refine fzD_ite (fun q => ?_) (fun q => ?_) | ((try conv => whnf); first
    | refine bs_d (fun q => ?_) (fun q => ?_)
    | refine bs_n ?_
    | refine bs_i (fun q => ?_) (fun q => ?_)
    | refine eqk rfl ?_
    | refine ffin _ rfl rfl hS (Sub.refl _) rfl ⟨?_, rfl, rfl⟩)
  all_goals rfl
theorem jsum (L : List Ln) (hl : L.length < 1000000) (hR : ∀ x ∈ L, x.R) : Pure 89 [.sl (lns L), .fn 90 []] (sumS (L.map Ln.amt)) := by
  intro S tk
  have hlen := lns_len L
  have hsum := Sum (L.map Ln.amt) (by simp; omega) (fun n hn => by obtain ⟨x, hx, rfl⟩ := List.mem_map.1 hn; exact (hR x hx).amt)
  refine ACalls.fgo c89 rfl fun hS => ?_
  repeat' first | with_reducible refine fzD_ite (fun q => ?_) (fun q => ?_) | ((try conv => whnf); first
    | refine bs_d (fun q => ?_) (fun q => ?_)
    | refine bs_n ?_
    | refine bs_i (fun q => ?_) (fun q => ?_)
    | refine eqk rfl ?_
    | refine ffin _ rfl rfl hS (Sub.refl _) rfl ⟨?_, rfl, rfl⟩)
  refine floop (α := Nat) rfl rfl hS (fun i => i ≤ L.length) (fun i => L.length - i) (fun i => [(11, .d (.int .i64 i)), (10, .d (.int .i64 L.length)), (9, .d (.sl (lns L))), (1, .d (.fn 90 [])), (6, .d (.gsl (i64s ((L.take i).map Ln.amt)) (tk.length + 0)))]) (fun _ => []) (fun i => [((i64s ((L.take i).map Ln.amt)).length, 2, 1)]) 0 (Nat.zero_le _) (fstep_tok 2 1 (t := 6) (.inl rfl) ⟨Sub.refl _, Sub.int (by rw [hlen]), Sub.refl _, Sub.refl _, Sub.refl _, trivial⟩) ?_
  intro i hi
  by_cases hlt : i < L.length
  · have hgl : i64s ((L.take i).map Ln.amt) ++ [[.int .i64 L[i]!.amt]] = i64s ((L.take (i + 1)).map Ln.amt) := by rw [take_snA hlt]; simp [i64s]
    repeat' first | with_reducible refine fzD_ite (fun q => ?_) (fun q => ?_) | ((try conv => whnf); first
      | refine bs_t (decide_eq_true (by omega)) ?_
      | refine bs_t (rfl : callOK E0.P 90 = true) ?_
      | refine bs_d (fun q => ?_) (fun q => ?_)
      | refine bs_n ?_
      | refine bs_i (fun q => ?_) (fun q => ?_)
      | refine pK_i (iaD_ln (i := i) rfl hlt) ?_
      | refine ck (by first | rfl | simp) rfl (chk1 _) ?_
      | refine cq (chk1 _) ?_
      | (refine gk_app (t := 0) (src := [[.int .i64 L[i]!.amt]]) rfl rfl (by rfl) (by rfl) (by rfl) (by simp) (by rw [i64s_len, List.length_map, List.length_take]; simp [maxLen]; omega) ?_; rw [hgl])
      | refine eqk rfl ?_
      | refine ffin _ rfl rfl hS (Sub.refl _) rfl ⟨?_, rfl, rfl⟩)
    conv => whnf
    exact fnext (α := Nat) (i + 1) (by omega) (by omega) (fstep_drop (J' := []) (Jx := [_]) (TK' := [_]) (TKx := []) rfl rfl ⟨Sub.int (by first | rfl | omega | (refine Int.sub_eq_zero.mp ?_; simp (disch := ((try unfold I64); omega)) only [wi64_id, td]; omega)), Sub.refl _, Sub.refl _, Sub.refl _, Sub.refl _, trivial⟩ (by simp [frD, FD.to, frSc, D.sc, scLL_lns, scL, scL_i64s]) rfl)
  · obtain rfl : i = L.length := by omega
    rw [List.take_length]
    by_cases hf : -9223372036854775808 ≤ (L.map Ln.amt).sum ∧ (L.map Ln.amt).sum < 9223372036854775808
    · rw [sumS, if_pos hf] at hsum ⊢
      repeat' first | with_reducible refine fzD_ite (fun q => ?_) (fun q => ?_) | ((try conv => whnf); first
        | refine bs_f (decide_eq_false (by omega)) ?_
        | refine bs_d (fun q => ?_) (fun q => ?_)
        | refine bs_n ?_
        | refine bs_i (fun q => ?_) (fun q => ?_)
        | refine ckS (by first | rfl | simp) rfl hsum (.cons (Sub.rd rfl) .nil) ?_
        | refine eqk rfl ?_
        | refine ffin _ rfl rfl hS (Sub.refl _) rfl ⟨?_, rfl, rfl⟩)
      all_goals rfl
    · rw [sumS, if_neg hf] at hsum ⊢
      repeat' first | with_reducible refine fzD_ite (fun q => ?_) (fun q => ?_) | ((try conv => whnf); first
        | refine bs_f (decide_eq_false (by omega)) ?_
        | refine bs_d (fun q => ?_) (fun q => ?_)
        | refine bs_n ?_
        | refine bs_i (fun q => ?_) (fun q => ?_)
        | refine ckS (by first | rfl | simp) rfl hsum (.cons (Sub.rd rfl) .nil) ?_
        | refine eqk rfl ?_
        | refine ffin _ rfl rfl hS (Sub.refl _) rfl ⟨?_, rfl, rfl⟩)
      all_goals rfl
theorem chkOK (e : En) (L : List Ln) (h1 : 1 ≤ e.day ∧ e.day ≤ 3652059) (h2 : e.kind ≠ 0) (h3 : 2 ≤ L.length) (h4 : L.length ≤ 64) (hR : ∀ x ∈ L, x.R) (hm : ∀ x ∈ L, x.may) (hs : (L.map Ln.amt).sum = 0) : Pure 29 [entD e L] (.int .i64 0) := by
  intro S tk
  have hlen := lns_len L
  have hsm := jsum L (by omega) hR
  rw [sumS, hs, if_pos (by omega)] at hsm
  refine ACalls.fgo c29 rfl fun hS => ?_
  repeat' first | with_reducible refine fzD_ite (fun q => ?_) (fun q => ?_) | ((try conv => whnf); first
    | refine bs_f (decide_eq_false (by omega)) ?_
    | refine bs_d (fun q => ?_) (fun q => ?_)
    | refine bs_n ?_
    | refine bs_i (fun q => ?_) (fun q => ?_)
    | refine eqk rfl ?_
    | refine ffin _ rfl rfl hS (Sub.refl _) rfl ⟨?_, rfl, rfl⟩)
  conv => whnf
  refine floop (α := Nat) rfl rfl hS (fun i => i ≤ L.length) (fun i => L.length - i) (fun i => [(35, .d (.int .i64 i)), (34, .d (.int .i64 L.length)), (33, .d (.sl (lns L))), (1, .lp 0 0)]) (fun _ => [.arr [.int .i64 e.day, .int .u8 e.kind, .int .u64 e.src, .sl (lns L)]]) (fun _ => []) 0 (Nat.zero_le _) (fstep_sub ⟨Sub.refl _, Sub.int (by rw [hlen]), Sub.refl _, Sub.refl _, trivial⟩) ?_
  intro i hi
  by_cases hlt : i < L.length
  · have hmy := may L[i]!
    rw [decide_eq_true (hm _ (mem_at hlt))] at hmy
    repeat' first | with_reducible refine fzD_ite (fun q => ?_) (fun q => ?_) | ((try conv => whnf); first
      | refine bs_t (decide_eq_true (by omega)) ?_
      | refine bs_d (fun q => ?_) (fun q => ?_)
      | refine bs_n ?_
      | refine bs_i (fun q => ?_) (fun q => ?_)
      | refine pK_i (iaD_ln (i := i) rfl hlt) ?_
      | refine ck (by first | rfl | simp) rfl (hmy) ?_
      | refine cq (hmy) ?_
      | refine eqk rfl ?_
      | refine ffin _ rfl rfl hS (Sub.refl _) rfl ⟨?_, rfl, rfl⟩)
    conv => whnf
    exact fnext (α := Nat) (i + 1) (by omega) (by omega) (fstep_drop (J' := [_]) (Jx := [_]) (TK' := []) (TKx := []) rfl rfl ⟨Sub.int (by first | rfl | omega | (refine Int.sub_eq_zero.mp ?_; simp (disch := ((try unfold I64); omega)) only [wi64_id, td]; omega)), Sub.refl _, Sub.refl _, Sub.refl _, trivial⟩ (by simp [frD, FD.to, frSc, D.sc, scLL_lns]) (by simp [oScL, oSc, scL, D.sc, scLL_lns]))
  · skip
    repeat' first | with_reducible refine fzD_ite (fun q => ?_) (fun q => ?_) | ((try conv => whnf); first
      | refine bs_f (decide_eq_false (by omega)) ?_
      | refine bs_d (fun q => ?_) (fun q => ?_)
      | refine bs_n ?_
      | refine bs_i (fun q => ?_) (fun q => ?_)
      | refine ck (by first | rfl | simp) rfl (hsm) ?_
      | refine cq (hsm) ?_
      | refine eqk rfl ?_
      | refine ffin _ rfl rfl hS (Sub.refl _) rfl ⟨?_, rfl, rfl⟩)
    all_goals rfl
def ofS (L : List Ln) (a : Int) : Int := ((L.filter fun x => decide (x.acc = a)).map Ln.amt).sum
theorem ofS_snoc (L : List Ln) (x : Ln) (a : Int) : ofS (L ++ [x]) a = ofS L a + if x.acc = a then x.amt else 0 := by
  rw [ofS, List.filter_append, List.map_append, List.sum_append, ← ofS]
  by_cases h : x.acc = a <;> simp [h]
theorem ofC (e : En) (L : List Ln) (a : Int) (hl : L.length < 1000000) (hb : ∀ i, I64 (ofS (L.take i) a)) : Pure 30 [entD e L, .int .i64 a] (.int .i64 (ofS L a)) := by
  intro S tk
  have hlen := lns_len L
  refine ACalls.fgo c30 rfl fun hS => ?_
  repeat' first | with_reducible refine fzD_ite (fun q => ?_) (fun q => ?_) | ((try conv => whnf); first
    | refine bs_d (fun q => ?_) (fun q => ?_)
    | refine bs_n ?_
    | refine bs_i (fun q => ?_) (fun q => ?_)
    | refine eqk rfl ?_
    | refine ffin _ rfl rfl hS (Sub.refl _) rfl ⟨?_, rfl, rfl⟩)
  refine floop (α := Nat) rfl rfl hS (fun i => i ≤ L.length) (fun i => L.length - i) (fun i => [(6, .d (.int .i64 i)), (5, .d (.int .i64 (ofS (L.take i) a))), (1, .d (.int .i64 a)), (2, .lp 0 0)]) (fun _ => [.arr [.int .i64 e.day, .int .u8 e.kind, .int .u64 e.src, .sl (lns L)]]) (fun _ => []) 0 (Nat.zero_le _) (fstep_sub ⟨Sub.refl _, Sub.refl _, Sub.refl _, Sub.refl _, trivial⟩) ?_
  intro i hi
  by_cases hlt : i < L.length
  · have hs := ofS_snoc (L.take i) L[i]! a
    rw [← take_snA hlt] at hs
    have hbi := hb (i + 1)
    by_cases ha : L[i]!.acc = a
    · rw [if_pos ha] at hs
      have hw : IntKind.wrap .i64 (ofS (L.take i) a + L[i]!.amt) = ofS (L.take (i + 1)) a := by rw [← hs]; exact wi64_id hbi
      repeat' first | with_reducible refine fzD_ite (fun q => ?_) (fun q => ?_) | ((try conv => whnf); first
        | refine bs_t (decide_eq_true (show (i : Int) < ((lns L).length : Int) by omega)) ?_
        | refine bs_t (decide_eq_true ha) ?_
        | refine bs_d (fun q => ?_) (fun q => ?_)
        | refine bs_n ?_
        | refine bs_i (fun q => ?_) (fun q => ?_)
        | refine pK_i (iaD_ln (i := i) rfl hlt) ?_
        | refine eqk rfl ?_
        | refine ffin _ rfl rfl hS (Sub.refl _) rfl ⟨?_, rfl, rfl⟩)
      conv => whnf
      exact fnext (α := Nat) (i + 1) (by omega) (by omega) (fstep_sub ⟨Sub.int (by first | rfl | omega | (refine Int.sub_eq_zero.mp ?_; simp (disch := ((try unfold I64); omega)) only [wi64_id, td]; omega)), Sub.int hw, Sub.refl _, Sub.refl _, trivial⟩)
    · rw [if_neg ha] at hs
      repeat' first | with_reducible refine fzD_ite (fun q => ?_) (fun q => ?_) | ((try conv => whnf); first
        | refine bs_t (decide_eq_true (show (i : Int) < ((lns L).length : Int) by omega)) ?_
        | refine bs_f (decide_eq_false ha) ?_
        | refine bs_d (fun q => ?_) (fun q => ?_)
        | refine bs_n ?_
        | refine bs_i (fun q => ?_) (fun q => ?_)
        | refine pK_i (iaD_ln (i := i) rfl hlt) ?_
        | refine eqk rfl ?_
        | refine ffin _ rfl rfl hS (Sub.refl _) rfl ⟨?_, rfl, rfl⟩)
      conv => whnf
      exact fnext (α := Nat) (i + 1) (by omega) (by omega) (fstep_sub ⟨Sub.int (by first | rfl | omega | (refine Int.sub_eq_zero.mp ?_; simp (disch := ((try unfold I64); omega)) only [wi64_id, td]; omega)), Sub.int (by rw [hs]; omega), Sub.refl _, Sub.refl _, trivial⟩)
  · obtain rfl : i = L.length := by omega
    rw [List.take_length]
    repeat' first | with_reducible refine fzD_ite (fun q => ?_) (fun q => ?_) | ((try conv => whnf); first
      | refine bs_f (decide_eq_false (show ¬ (L.length : Int) < ((lns L).length : Int) by omega)) ?_
      | refine bs_d (fun q => ?_) (fun q => ?_)
      | refine bs_n ?_
      | refine bs_i (fun q => ?_) (fun q => ?_)
      | refine eqk rfl ?_
      | refine ffin _ rfl rfl hS (Sub.refl _) rfl ⟨?_, rfl, rfl⟩)
    all_goals rfl
end Go.KL.Ytgdidchpignbpaa

/- NotesBalance -/
set_option linter.unusedVariables false
set_option linter.unusedSimpArgs false
set_option linter.unusedSectionVars false
set_option maxRecDepth 4000
namespace Go.KL.Ytgdidchpignbpaa
open Go Go.KL Go.RowKit Go.Proofs

theorem c6 : cFun E0.P 6 = some ⟨176, [(2, none)], .seq (.rg [⟨some 1, none, .box (.t 0) 28⟩, ⟨some 2, none, .mv (.k (.bool false))⟩]) (.seq (.seq (.rg [⟨some 12, none, .fa 0 (.t 1)⟩, ⟨some 13, none, .fa 4 (.t 12)⟩, ⟨some 14, none, .ld 1 false (.t 13)⟩, ⟨some 15, none, .len 0 (.t 14)⟩, ⟨some 16, none, .bin .gtr .leaf (.t 15) (.k (.int .i64 1000))⟩]) (.cond (.t 16) (.seq (.rg [⟨some 17, none, .call 15 []⟩, ⟨some 2, none, .mv (.t 17)⟩]) .ret) .skip)) (.seq (.rg [⟨some 19, none, .fa 5 (.t 1)⟩, ⟨some 20, none, .ld 11 true (.t 19)⟩, ⟨some 21, none, .call 16 [.t 20]⟩, ⟨some 18, none, .mv (.t 21)⟩, ⟨some 22, none, .ext 0 (.t 18)⟩, ⟨some 23, none, .ext 1 (.t 18)⟩, ⟨some 3, none, .alloc [.int .i64 0, .int .u8 0, .int .u64 0, .nilsl] 32⟩, ⟨none, none, .st 4 (.t 3) (.t 22)⟩, ⟨some 4, none, .mv (.t 23)⟩]) (.seq (.seq (.rd [(⟨some 24, none, .mv (.t 4)⟩, none), (⟨some 25, none, .bin .eql .leaf (.t 24) (.k (.int .i64 0))⟩, none), (⟨some 26, none, .mv (.t 25)⟩, none), (⟨some 27, some (26, true), .fa 3 (.t 3)⟩, none), (⟨some 28, some (26, true), .ld 1 false (.t 27)⟩, none), (⟨some 29, some (26, true), .len 1 (.t 28)⟩, none), (⟨some 30, some (26, true), .bin .gtr .leaf (.t 29) (.k (.int .i64 0))⟩, none), (⟨some 31, some (26, true), .mv (.t 30)⟩, none), (⟨some 32, some (31, true), .ld 4 true (.t 3)⟩, none), (⟨some 33, some (31, true), .call 29 [.t 32]⟩, some []), (⟨some 34, some (31, true), .bin .neq .leaf (.t 33) (.k (.int .i64 0))⟩, none), (⟨some 35, some (26, true), .pick (.t 31) (.t 34) (.k (.bool false))⟩, none), (⟨some 36, some (26, true), .mv (.t 35)⟩, none), (⟨some 37, some (36, false), .ld 4 true (.t 3)⟩, none), (⟨some 38, some (36, false), .call 30 [.t 37, .k (.int .i64 1200)]⟩, none), (⟨some 39, some (36, false), .fa 5 (.t 1)⟩, none), (⟨some 40, some (36, false), .fa 7 (.t 39)⟩, none), (⟨some 41, some (36, false), .ld 1 false (.t 40)⟩, none), (⟨some 42, some (36, false), .bin .neq .leaf (.t 38) (.t 41)⟩, none), (⟨some 43, some (26, true), .pick (.t 36) (.k (.bool true)) (.t 42)⟩, none), (⟨some 44, some (26, true), .mv (.t 43)⟩, none), (⟨some 45, some (44, false), .fa 3 (.t 3)⟩, none), (⟨some 46, some (44, false), .ld 1 false (.t 45)⟩, none), (⟨some 47, some (44, false), .len 1 (.t 46)⟩, none), (⟨some 48, some (44, false), .bin .eql .leaf (.t 47) (.k (.int .i64 0))⟩, none), (⟨some 49, some (44, false), .fa 5 (.t 1)⟩, none), (⟨some 50, some (44, false), .fa 7 (.t 49)⟩, none), (⟨some 51, some (44, false), .ld 1 false (.t 50)⟩, none), (⟨some 52, some (44, false), .bin .eql .leaf (.t 51) (.k (.int .i64 0))⟩, none), (⟨some 53, some (44, false), .bin .neq .leafB (.t 48) (.t 52)⟩, none), (⟨some 54, some (26, true), .pick (.t 44) (.k (.bool true)) (.t 53)⟩, none), (⟨some 55, none, .pick (.t 26) (.t 54) (.k (.bool false))⟩, none)]) (.cond (.t 55) (.seq (.rg [⟨some 2, none, .mv (.k (.bool false))⟩]) .ret) .skip)) (.seq (.rg [⟨some 57, none, .fa 0 (.t 1)⟩, ⟨some 58, none, .ld 5 true (.t 57)⟩, ⟨some 59, none, .fa 5 (.t 1)⟩, ⟨some 60, none, .ld 11 true (.t 59)⟩, ⟨some 61, none, .fa 16 (.t 1)⟩, ⟨some 62, none, .ld 1 false (.t 61)⟩, ⟨some 63, none, .call 18 [.t 58, .t 60, .t 62]⟩, ⟨some 56, none, .mv (.t 63)⟩, ⟨some 64, none, .ext 0 (.t 56)⟩, ⟨some 65, none, .ext 1 (.t 56)⟩, ⟨some 66, none, .ext 2 (.t 56)⟩, ⟨some 5, none, .alloc [.int .u64 0, .int .u64 0, .int .u64 0, .int .i64 0, .int .i64 0, .int .i64 0, .int .i64 0, .int .i64 0, .int .i64 0, .int .i64 0, .int .i64 0] 26⟩, ⟨some 6, none, .alloc [.int .i64 0, .int .u8 0, .int .u64 0, .nilsl] 32⟩, ⟨none, none, .st 11 (.t 5) (.t 64)⟩, ⟨none, none, .st 4 (.t 6) (.t 65)⟩, ⟨some 7, none, .mv (.t 66)⟩]) (.seq (.seq (.rg [⟨some 67, none, .mv (.t 7)⟩, ⟨some 68, none, .bin .neq .leaf (.t 67) (.k (.int .i64 0))⟩]) (.cond (.t 68) (.seq (.rg [⟨some 69, none, .ld 11 true (.t 5)⟩, ⟨some 70, none, .build [.int .u64 0, .int .u64 0, .int .u64 0, .int .i64 0, .int .i64 0, .int .i64 0, .int .i64 0, .int .i64 0, .int .i64 0, .int .i64 0, .int .i64 0] []⟩, ⟨some 71, none, .bin .eql (.agg [(0, .i), (1, .i), (2, .i), (3, .i), (4, .i), (5, .i), (6, .i), (7, .i), (8, .i), (9, .i), (10, .i)]) (.t 69) (.t 70)⟩, ⟨some 72, none, .mv (.t 71)⟩, ⟨some 73, some (72, true), .fa 3 (.t 6)⟩, ⟨some 74, some (72, true), .ld 1 false (.t 73)⟩, ⟨some 75, some (72, true), .len 1 (.t 74)⟩, ⟨some 76, some (72, true), .bin .eql .leaf (.t 75) (.k (.int .i64 0))⟩, ⟨some 77, none, .pick (.t 72) (.t 76) (.k (.bool false))⟩, ⟨some 78, none, .mv (.t 77)⟩, ⟨some 79, some (78, true), .call 15 []⟩, ⟨some 80, none, .pick (.t 78) (.t 79) (.k (.bool false))⟩, ⟨some 2, none, .mv (.t 80)⟩]) .ret) .skip)) (.seq (.rd [(⟨some 81, none, .ld 4 true (.t 6)⟩, none), (⟨some 82, none, .call 30 [.t 81, .k (.int .i64 2100)]⟩, none), (⟨some 83, none, .ld 4 true (.t 6)⟩, none), (⟨some 84, none, .call 30 [.t 83, .k (.int .i64 3100)]⟩, some []), (⟨some 8, none, .mv (.t 82)⟩, none), (⟨some 9, none, .mv (.t 84)⟩, none)]) (.seq (.rd [(⟨some 85, none, .ld 4 true (.t 6)⟩, none), (⟨some 86, none, .call 30 [.t 85, .k (.int .i64 1200)]⟩, none), (⟨some 87, none, .ld 4 true (.t 6)⟩, none), (⟨some 88, none, .call 30 [.t 87, .k (.int .i64 2200)]⟩, some []), (⟨some 10, none, .mv (.t 86)⟩, none), (⟨some 11, none, .mv (.t 88)⟩, none)]) (.seq (.rd [(⟨some 89, none, .ld 4 true (.t 6)⟩, none), (⟨some 90, none, .call 29 [.t 89]⟩, some []), (⟨some 91, none, .bin .eql .leaf (.t 90) (.k (.int .i64 0))⟩, none), (⟨some 92, none, .mv (.t 91)⟩, none), (⟨some 93, some (92, true), .mv (.t 8)⟩, none), (⟨some 94, some (92, true), .bin .geq .leaf (.t 93) (.k (.int .i64 0))⟩, none), (⟨some 95, none, .pick (.t 92) (.t 94) (.k (.bool false))⟩, none), (⟨some 96, none, .mv (.t 95)⟩, none), (⟨some 97, some (96, true), .mv (.t 8)⟩, none), (⟨some 98, some (96, true), .fa 16 (.t 1)⟩, none), (⟨some 99, some (96, true), .ld 1 false (.t 98)⟩, none), (⟨some 100, some (96, true), .bin .leq .leaf (.t 97) (.t 99)⟩, none), (⟨some 101, none, .pick (.t 96) (.t 100) (.k (.bool false))⟩, none), (⟨some 102, none, .mv (.t 101)⟩, none), (⟨some 103, some (102, true), .mv (.t 9)⟩, none), (⟨some 104, some (102, true), .bin .geq .leaf (.t 103) (.k (.int .i64 0))⟩, none), (⟨some 105, none, .pick (.t 102) (.t 104) (.k (.bool false))⟩, none), (⟨some 106, none, .mv (.t 105)⟩, none), (⟨some 107, some (106, true), .mv (.t 9)⟩, none), (⟨some 108, some (106, true), .bin .eql .leaf (.t 107) (.k (.int .i64 0))⟩, none), (⟨some 109, some (106, true), .mv (.t 108)⟩, none), (⟨some 110, some (109, false), .mv (.t 8)⟩, none), (⟨some 111, some (109, false), .fa 16 (.t 1)⟩, none), (⟨some 112, some (109, false), .ld 1 false (.t 111)⟩, none), (⟨some 113, some (109, false), .bin .eql .leaf (.t 110) (.t 112)⟩, none), (⟨some 114, some (106, true), .pick (.t 109) (.k (.bool true)) (.t 113)⟩, none), (⟨some 115, none, .pick (.t 106) (.t 114) (.k (.bool false))⟩, none), (⟨some 116, none, .mv (.t 115)⟩, none), (⟨some 117, some (116, true), .mv (.t 8)⟩, none), (⟨some 118, some (116, true), .mv (.t 9)⟩, none), (⟨some 119, some (116, true), .bin .add .leaf (.t 117) (.t 118)⟩, none), (⟨some 120, some (116, true), .fa 0 (.t 1)⟩, none), (⟨some 121, some (116, true), .fa 3 (.t 120)⟩, none), (⟨some 122, some (116, true), .ld 1 false (.t 121)⟩, none), (⟨some 123, some (116, true), .bin .eql .leaf (.t 119) (.t 122)⟩, none), (⟨some 124, none, .pick (.t 116) (.t 123) (.k (.bool false))⟩, none), (⟨some 125, none, .mv (.t 124)⟩, none), (⟨some 126, some (125, true), .mv (.t 10)⟩, none), (⟨some 127, some (125, true), .mv (.t 11)⟩, none), (⟨some 128, some (125, true), .bin .add .leaf (.t 126) (.t 127)⟩, none), (⟨some 129, some (125, true), .fa 0 (.t 1)⟩, none), (⟨some 130, some (125, true), .fa 3 (.t 129)⟩, none), (⟨some 131, some (125, true), .ld 1 false (.t 130)⟩, none), (⟨some 132, some (125, true), .un .neg (.t 131)⟩, none), (⟨some 133, some (125, true), .bin .eql .leaf (.t 128) (.t 132)⟩, none), (⟨some 134, none, .pick (.t 125) (.t 133) (.k (.bool false))⟩, none), (⟨some 135, none, .mv (.t 134)⟩, none), (⟨some 136, some (135, true), .mv (.t 11)⟩, none), (⟨some 137, some (135, true), .un .neg (.t 136)⟩, none), (⟨some 138, some (135, true), .fa 5 (.t 1)⟩, none), (⟨some 139, some (135, true), .fa 9 (.t 138)⟩, none), (⟨some 140, some (135, true), .ld 1 false (.t 139)⟩, none), (⟨some 141, some (135, true), .fa 9 (.t 5)⟩, none), (⟨some 142, some (135, true), .ld 1 false (.t 141)⟩, none), (⟨some 143, some (135, true), .bin .sub .leaf (.t 140) (.t 142)⟩, none), (⟨some 144, some (135, true), .bin .eql .leaf (.t 137) (.t 143)⟩, none), (⟨some 145, none, .pick (.t 135) (.t 144) (.k (.bool false))⟩, none), (⟨some 146, none, .mv (.t 145)⟩, none), (⟨some 147, some (146, true), .mv (.t 10)⟩, none), (⟨some 148, some (146, true), .un .neg (.t 147)⟩, none), (⟨some 149, some (146, true), .fa 5 (.t 1)⟩, none), (⟨some 150, some (146, true), .ld 11 true (.t 149)⟩, none), (⟨some 151, some (146, true), .call 28 [.t 150]⟩, none), (⟨some 152, some (146, true), .ld 11 true (.t 5)⟩, none), (⟨some 153, some (146, true), .call 28 [.t 152]⟩, some []), (⟨some 154, some (146, true), .bin .sub .leaf (.t 151) (.t 153)⟩, none), (⟨some 155, some (146, true), .bin .eql .leaf (.t 148) (.t 154)⟩, none), (⟨some 156, none, .pick (.t 146) (.t 155) (.k (.bool false))⟩, none), (⟨some 157, none, .mv (.t 156)⟩, none), (⟨some 158, some (157, true), .fa 2 (.t 6)⟩, none), (⟨some 159, some (157, true), .ld 1 false (.t 158)⟩, none), (⟨some 160, some (157, true), .fa 0 (.t 1)⟩, none), (⟨some 161, some (157, true), .fa 0 (.t 160)⟩, none), (⟨some 162, some (157, true), .ld 1 false (.t 161)⟩, none), (⟨some 163, some (157, true), .bin .eql .leaf (.t 159) (.t 162)⟩, none), (⟨some 164, none, .pick (.t 157) (.t 163) (.k (.bool false))⟩, none), (⟨some 165, none, .mv (.t 164)⟩, none), (⟨some 166, some (165, true), .fa 0 (.t 6)⟩, none), (⟨some 167, some (165, true), .ld 1 false (.t 166)⟩, none), (⟨some 168, some (165, true), .fa 0 (.t 1)⟩, none), (⟨some 169, some (165, true), .fa 2 (.t 168)⟩, none), (⟨some 170, some (165, true), .ld 1 false (.t 169)⟩, none), (⟨some 171, some (165, true), .bin .eql .leaf (.t 167) (.t 170)⟩, none), (⟨some 172, none, .pick (.t 165) (.t 171) (.k (.bool false))⟩, none), (⟨some 173, none, .mv (.t 172)⟩, none), (⟨some 174, some (173, true), .call 15 []⟩, some []), (⟨some 175, none, .pick (.t 173) (.t 174) (.k (.bool false))⟩, none), (⟨some 2, none, .mv (.t 175)⟩, none)]) .ret))))))))⟩ := by kernel_rfl

/-- the sum of an account's amounts among those that are put -/
def ofP (ps : List (Int × Int)) (a : Int) : Int := ((ps.filter fun p => decide (p.1 = a)).map (·.2)).sum
theorem ofS_PL (x : Iv) (a : Int) : ∀ ps : List (Int × Int), ofS (PL x ps) a = ofP ps a
  | [] => rfl
  | p :: ps => by
    have ih := ofS_PL x a ps
    have hc : PL x (p :: ps) = (if p.2 = 0 then [] else [lineP x p]) ++ PL x ps := by
      by_cases h : p.2 = 0
      · rw [if_pos h, PL, List.filter_cons, if_neg (by simp [h])]; rfl
      · rw [if_neg h, PL, List.filter_cons, if_pos (by simp [h])]; rfl
    rw [hc, ofS, List.filter_append, List.map_append, List.sum_append, show ((List.filter (fun x => decide (x.acc = a)) (PL x ps)).map Ln.amt).sum = ofP ps a from ih, ofP, ofP, List.filter_cons]
    by_cases h : p.2 = 0
    · rw [if_pos h]
      by_cases ha : p.1 = a <;> simp [ha, h]
    · rw [if_neg h]
      by_cases ha : p.1 = a <;> simp [ha, lineP]
theorem amt_PL (x : Iv) : ∀ ps : List (Int × Int), ((PL x ps).map Ln.amt).sum = (ps.map (·.2)).sum
  | [] => rfl
  | p :: ps => by
    have ih := amt_PL x ps
    by_cases h : p.2 = 0
    · rw [PL, List.filter_cons, if_neg (by simp [h])]
      rw [PL] at ih
      rw [ih, List.map_cons, List.sum_cons, h]; omega
    · rw [PL, List.filter_cons, if_pos (by simp [h]), List.map_cons, List.map_cons, List.sum_cons]
      rw [PL] at ih
      rw [ih, List.map_cons, List.sum_cons]; rfl
/-- few lines, none of them great: all sums fit -/
theorem ofS_fit {L : List Ln} (h4 : L.length ≤ 4) (hm : ∀ x ∈ L, x.amt < 4611686018427387904 ∧ -4611686018427387904 < x.amt) (hn : (L.map Ln.acc).Nodup) (a : Int) : ∀ i, I64 (ofS (L.take i) a) := by
  have key : ∀ l : List Ln, (l.map Ln.acc).Nodup → (∀ x ∈ l, x.amt < 4611686018427387904 ∧ -4611686018427387904 < x.amt) → I64 (ofS l a) ∧ (a ∉ l.map Ln.acc → ofS l a = 0) := by
    intro l
    induction l with
    | nil => intro _ _; exact ⟨by simp [ofS, I64], fun _ => rfl⟩
    | cons x l ih =>
      intro hn hm
      simp only [List.map_cons, List.nodup_cons] at hn
      have ⟨i1, i2⟩ := ih hn.2 fun y hy => hm y (by simp [hy])
      have hx := hm x (by simp)
      by_cases hxa : x.acc = a
      · have h0 := i2 (hxa ▸ hn.1)
        have e : ofS (x :: l) a = x.amt + ofS l a := by simp [ofS, hxa]
        rw [e, h0]
        exact ⟨by unfold I64; omega, fun h => absurd (by simp [hxa]) h⟩
      · have e : ofS (x :: l) a = ofS l a := by simp [ofS, hxa]
        rw [e]
        exact ⟨i1, fun h => i2 fun hh => h (by simp [hh])⟩
  intro i
  exact (key _ (hn.sublist ((List.take_sublist i L).map _)) fun x hx => hm x (List.mem_of_mem_take hx)).1
theorem PL_acc {x : Iv} {ps : List (Int × Int)} (h : (ps.map (·.1)).Nodup) : ((PL x ps).map Ln.acc).Nodup := by
  rw [PL, List.map_map]
  exact h.sublist ((List.filter_sublist ..).map _)
theorem PL_amt {x : Iv} {ps : List (Int × Int)} (hb : ∀ p ∈ ps, -4611686018427387904 < p.2 ∧ p.2 < 4611686018427387904) : ∀ y ∈ PL x ps, y.amt < 4611686018427387904 ∧ -4611686018427387904 < y.amt := by
  intro y hy
  obtain ⟨p, hp, h0, rfl⟩ := mem_PL.1 hy
  exact ⟨(hb p hp).2, (hb p hp).1⟩
theorem PL_may {x : Iv} {ps : List (Int × Int)} (hb : ∀ p ∈ ps, 1 ≤ p.1 ∧ p.1 ≤ 9999 ∧ -4611686018427387904 < p.2 ∧ p.2 < 4611686018427387904) : ∀ y ∈ PL x ps, y.may := by
  intro y hy
  obtain ⟨p, hp, h0, rfl⟩ := mem_PL.1 hy
  have := hb p hp
  exact ⟨this.1, this.2.1, h0, by simp only [lineP]; omega, by simp only [lineP]; omega⟩
theorem credit_now {x : Iv} (hx : x.R) {n : Int} {now : Iv} {over : Int} (h : x.credit n = .ok (now, over)) : now.ok ∧ now.R ∧ x.pd - now.pd = over ∧ x.op - now.op = n - over ∧ 1 ≤ n ∧ 0 ≤ x.op ∧ x.op ≤ 4611686018427387903 ∧ 0 ≤ now.op ∧ now.op ≤ 4611686018427387903 ∧ 0 ≤ x.pd ∧ 0 ≤ now.pd := by
  have hb := op_bd x
  unfold Iv.credit at h
  by_cases h1 : x.ok ∧ 1 ≤ n
  · rw [if_pos h1] at h
    by_cases h2 : n ≤ x.op + x.pd
    · rw [if_pos h2] at h
      have hop := op_ok h1.1
      have hxo := h1.1
      unfold Iv.ok at hxo
      by_cases h3 : n ≤ x.op
      · rw [if_pos h3] at h
        simp only [Except.ok.injEq, Prod.mk.injEq] at h
        obtain ⟨rfl, rfl⟩ := h
        have hok : ({ x with cr := x.cr + n } : Iv).ok := by unfold Iv.ok; simp only; omega
        have hop2 := op_ok hok
        simp only at hop2
        exact ⟨hok, ⟨hx.id, hx.cu, hx.co, hx.day, hx.due, hx.fr, hx.nx, hx.am, by simp only; unfold I64; omega, hx.pd, hx.lo⟩, by simp only; omega, by omega, h1.2, hb.1, hb.2, (op_bd _).1, (op_bd _).2, by omega, by simp only; omega⟩
      · rw [if_neg h3] at h
        simp only [Except.ok.injEq, Prod.mk.injEq] at h
        obtain ⟨rfl, rfl⟩ := h
        have hok : ({ x with cr := x.cr + n, pd := x.pd - (n - x.op) } : Iv).ok := by unfold Iv.ok; simp only; omega
        have hop2 := op_ok hok
        simp only at hop2
        exact ⟨hok, ⟨hx.id, hx.cu, hx.co, hx.day, hx.due, hx.fr, hx.nx, hx.am, by simp only; unfold I64; omega, by simp only; unfold I64; omega, hx.lo⟩, by simp only; omega, by omega, h1.2, hb.1, hb.2, (op_bd _).1, (op_bd _).2, by omega, by simp only; omega⟩
    · rw [if_neg h2] at h; cases h
  · rw [if_neg h1] at h; cases h
end Go.KL.Ytgdidchpignbpaa

/- NotesBalance: the law -/
set_option linter.unusedVariables false
set_option linter.unusedSimpArgs false
set_option linter.unusedSectionVars false
set_option maxRecDepth 4000
namespace Go.KL.Ytgdidchpignbpaa
open Go Go.KL Go.RowKit Go.Proofs

theorem bill_b {x : Iv} (hok : x.ok) : ∀ p ∈ billP x, 1 ≤ p.1 ∧ p.1 ≤ 9999 ∧ -4611686018427387904 < p.2 ∧ p.2 < 4611686018427387904 := by
  have := hok.2.1
  intro p hp
  simp only [billP, List.mem_cons, List.not_mem_nil, or_false] at hp
  rcases hp with rfl | rfl <;> (simp only; omega)
theorem wri_b {n : Nn} {d over : Int} (h1 : 0 ≤ d ∧ d ≤ n.am) (h2 : 0 ≤ over ∧ over ≤ n.am) (h3 : n.am < 4611686018427387904) : ∀ p ∈ writeQ n d over, 1 ≤ p.1 ∧ p.1 ≤ 9999 ∧ -4611686018427387904 < p.2 ∧ p.2 < 4611686018427387904 := by
  intro p hp
  simp only [writeQ, List.mem_cons, List.not_mem_nil, or_false] at hp
  rcases hp with rfl | rfl | rfl | rfl <;> (simp only; omega)
theorem bR {x : Iv} (hx : x.R) {ps : List (Int × Int)} (hb : ∀ p ∈ ps, 1 ≤ p.1 ∧ p.1 ≤ 9999 ∧ -4611686018427387904 < p.2 ∧ p.2 < 4611686018427387904) : ∀ y ∈ PL x ps, y.R := PL_R hx fun p hp => by have := hb p hp; omega
/-- the head's part of the law: what stands behind the bill -/
theorem wri_len {x : Iv} {n : Nn} {d over : Int} (h1 : 0 ≤ d ∧ d ≤ n.am) (h2 : 0 ≤ over ∧ over ≤ n.am) (h3 : 1 ≤ n.am) : 2 ≤ (PL x (writeQ n d over)).length := by
  have z5 : ¬ n.am = 0 := by omega
  by_cases z1 : over - n.am = 0 <;> by_cases z2 : d = 0 <;> by_cases z3 : -over = 0 <;> by_cases z4 : n.am - d = 0 <;> first | (exfalso; omega) | (simp [PL, writeQ, List.filter_cons, z1, z2, z3, z4, z5])
set_option maxHeartbeats 8000000 in
theorem notesBalance (n : Nn) (hn : n.R) (x : Iv) (hx : x.R) (df : Int) (hdf : I64 df) : Pure 6 [.agg (askCs n x df)] (.bool true) := by
  intro S tk
  by_cases hbig : (n.rs.size : Int) > 1000
  · refine ACalls.fgo c6 rfl fun hS => ?_
    repeat' first | with_reducible refine fzD_ite (fun q => ?_) (fun q => ?_) | ((try conv => whnf); first
      | refine bs_t (decide_eq_true hbig) ?_
      | refine bs_d (fun q => ?_) (fun q => ?_)
      | refine bs_n ?_
      | refine bs_i (fun q => ?_) (fun q => ?_)
      | refine ck (by first | rfl | simp) rfl (head) ?_
      | refine cq (head) ?_
      | refine eqk rfl ?_
      | refine ffin _ rfl rfl hS (Sub.refl _) rfl ⟨?_, rfl, rfl⟩)
    all_goals rfl
  have b1 := Bill x hx
  have w1 := Write n hn x hx df hdf
  rw [billD] at b1
  rw [writeD] at w1
  by_cases hok : x.ok
  · rw [if_pos hok] at b1
    have hbb := bill_b hok
    have hof := ofC ⟨x.day, 1, x.id⟩ (PL x (billP x)) 1200 (Nat.lt_of_le_of_lt (PL_len x (billP x)) (by simp [billP])) (ofS_fit (Nat.le_trans (PL_len x (billP x)) (by simp [billP])) (PL_amt fun p hp => (hbb p hp).2.2) (PL_acc (by simp [billP])) 1200)
    rw [ofS_PL, show ofP (billP x) 1200 = x.am from by simp [ofP, billP]] at hof
    have hll := lns_len (PL x (billP x))
    have hdy : 1 ≤ x.day ∧ x.day ≤ 3652059 := by have := hok.1; omega
    by_cases h0 : x.am = 0
    · have hPL : (PL x (billP x)).length = 0 := by simp [PL, billP, h0]
      by_cases hw : wok n x df
      · rw [if_pos hw] at w1
        cases hc : x.credit n.am with
        | error e =>
          rw [hc] at w1
          have hne := credit_er hc
          refine ACalls.fgo c6 rfl fun hS => ?_
          repeat' first | with_reducible refine fzD_ite (fun q => ?_) (fun q => ?_) | ((try conv => whnf); first
            | refine bs_f (decide_eq_false hbig) ?_
            | refine bs_t (decide_eq_true rfl) ?_
            | refine bs_t (decide_eq_true (by omega)) ?_
            | refine bs_f (decide_eq_false (by omega)) ?_
            | refine bs_and ?_
            | refine bs_d (fun q => ?_) (fun q => ?_)
            | refine bs_n ?_
            | refine bs_i (fun q => ?_) (fun q => ?_)
            | refine ck (by first | rfl | simp) rfl (b1) ?_
            | refine cq (b1) ?_
            | refine ck (by first | rfl | simp) rfl (w1) ?_
            | refine cq (w1) ?_
            | refine ck (by first | rfl | simp) rfl (hof) ?_
            | refine cq (hof) ?_
            | refine ck (by first | rfl | simp) rfl (head) ?_
            | refine cq (head) ?_
            | refine eqk rfl ?_
            | refine ffin _ rfl rfl hS (Sub.refl _) rfl ⟨?_, rfl, rfl⟩)
          all_goals rfl
        | ok p =>
          obtain ⟨now, over⟩ := p
          rw [hc] at w1
          obtain ⟨k1, k2, k3, k4, k5, k6, k7, k8, k9, k10, k11⟩ := credit_now hx hc
          obtain ⟨-, c1, c2⟩ := credit_ok hc
          obtain ⟨d, hd⟩ : ∃ d, d = min n.am df := ⟨_, rfl⟩
          simp only [← hd] at w1
          have hn5 := hw.1
          unfold Nn.ok at hn5
          have hdf3 := hw.2.2
          have hd1 : 0 ≤ d ∧ d ≤ n.am := by omega
          have hwb := wri_b (n := n) (over := over) hd1 ⟨c1, c2⟩ hn5.2.2.2.2.2.1
          have hnd : ((writeQ n d over).map (·.1)).Nodup := by simp [writeQ]
          have hL4 := writeQ_len x n d over
          have hfit := ofS_fit hL4 (PL_amt fun p hp => (hwb p hp).2.2) (PL_acc hnd)
          have hll2 := lns_len (PL x (writeQ n d over))
          have hL2 := wri_len (x := x) (over := over) hd1 ⟨c1, c2⟩ k5
          have o1 := ofC ⟨n.day, 2, n.id⟩ (PL x (writeQ n d over)) 1200 (by omega) (hfit _)
          have o2 := ofC ⟨n.day, 2, n.id⟩ (PL x (writeQ n d over)) 2100 (by omega) (hfit _)
          have o3 := ofC ⟨n.day, 2, n.id⟩ (PL x (writeQ n d over)) 2200 (by omega) (hfit _)
          have o4 := ofC ⟨n.day, 2, n.id⟩ (PL x (writeQ n d over)) 3100 (by omega) (hfit _)
          rw [ofS_PL, show ofP (writeQ n d over) 1200 = over - n.am from by simp [ofP, writeQ]] at o1
          rw [ofS_PL, show ofP (writeQ n d over) 2100 = d from by simp [ofP, writeQ]] at o2
          rw [ofS_PL, show ofP (writeQ n d over) 2200 = -over from by simp [ofP, writeQ]] at o3
          rw [ofS_PL, show ofP (writeQ n d over) 3100 = n.am - d from by simp [ofP, writeQ]] at o4
          have hck := chkOK ⟨n.day, 2, n.id⟩ (PL x (writeQ n d over)) ⟨hn5.2.2.1, hn5.2.2.2.1⟩ (by simp) hL2 (by omega) (bR hx hwb) (PL_may hwb) (by rw [amt_PL]; simp [writeQ]; omega)
          have q1 := Open x hx
          have q2 := Open now k2
          have e1 : IntKind.wrap .i64 (d + (n.am - d)) = n.am := by rw [wi64_id (by unfold I64; omega)]; omega
          have e2 : IntKind.wrap .i64 (over - n.am + -over) = -n.am := by rw [wi64_id (by unfold I64; omega)]; omega
          have e3 : IntKind.wrap .i64 (0 - n.am) = -n.am := by rw [wi64_id (by unfold I64; omega)]; omega
          have e4 : IntKind.wrap .i64 (0 - -over) = over := by rw [wi64_id (by unfold I64; omega)]; omega
          have e5 : IntKind.wrap .i64 (x.pd - now.pd) = over := by rw [wi64_id (by unfold I64; omega)]; omega
          have e6 : IntKind.wrap .i64 (0 - (over - n.am)) = n.am - over := by rw [wi64_id (by unfold I64; omega)]; omega
          have e7 : IntKind.wrap .i64 (x.op - now.op) = n.am - over := by rw [wi64_id (by unfold I64; omega)]; omega
          refine ACalls.fgo c6 rfl fun hS => ?_
          repeat' first | with_reducible refine fzD_ite (fun q => ?_) (fun q => ?_) | ((try conv => whnf); first
            | refine bs_f (decide_eq_false hbig) ?_
            | refine bs_t (decide_eq_true rfl) ?_
            | refine bs_t (decide_eq_true (by omega)) ?_
            | refine bs_f (decide_eq_false (by omega)) ?_
            | refine bs_and ?_
            | refine bs_d (fun q => ?_) (fun q => ?_)
            | refine bs_n ?_
            | refine bs_i (fun q => ?_) (fun q => ?_)
            | refine ck (by first | rfl | simp) rfl (b1) ?_
            | refine cq (b1) ?_
            | refine ck (by first | rfl | simp) rfl (w1) ?_
            | refine cq (w1) ?_
            | refine ck (by first | rfl | simp) rfl (hof) ?_
            | refine cq (hof) ?_
            | refine ck (by first | rfl | simp) rfl (o1) ?_
            | refine cq (o1) ?_
            | refine ck (by first | rfl | simp) rfl (o2) ?_
            | refine cq (o2) ?_
            | refine ck (by first | rfl | simp) rfl (o3) ?_
            | refine cq (o3) ?_
            | refine ck (by first | rfl | simp) rfl (o4) ?_
            | refine cq (o4) ?_
            | refine ck (by first | rfl | simp) rfl (hck) ?_
            | refine cq (hck) ?_
            | refine ck (by first | rfl | simp) rfl (q1) ?_
            | refine cq (q1) ?_
            | refine ck (by first | rfl | simp) rfl (q2) ?_
            | refine cq (q2) ?_
            | refine ck (by first | rfl | simp) rfl (head) ?_
            | refine cq (head) ?_
            | refine eqk rfl ?_
            | refine ffin _ rfl rfl hS (Sub.refl _) rfl ⟨?_, rfl, rfl⟩)
          all_goals rfl
      · rw [if_neg hw] at w1
        refine ACalls.fgo c6 rfl fun hS => ?_
        repeat' first | with_reducible refine fzD_ite (fun q => ?_) (fun q => ?_) | ((try conv => whnf); first
          | refine bs_f (decide_eq_false hbig) ?_
          | refine bs_t (decide_eq_true rfl) ?_
          | refine bs_t (decide_eq_true (by omega)) ?_
          | refine bs_f (decide_eq_false (by omega)) ?_
          | refine bs_and ?_
          | refine bs_d (fun q => ?_) (fun q => ?_)
          | refine bs_n ?_
          | refine bs_i (fun q => ?_) (fun q => ?_)
          | refine ck (by first | rfl | simp) rfl (b1) ?_
          | refine cq (b1) ?_
          | refine ck (by first | rfl | simp) rfl (w1) ?_
          | refine cq (w1) ?_
          | refine ck (by first | rfl | simp) rfl (hof) ?_
          | refine cq (hof) ?_
          | refine ck (by first | rfl | simp) rfl (head) ?_
          | refine cq (head) ?_
          | refine eqk rfl ?_
          | refine ffin _ rfl rfl hS (Sub.refl _) rfl ⟨?_, rfl, rfl⟩)
        all_goals rfl
    · have hPL : (PL x (billP x)).length = 2 := by simp [PL, billP, h0]
      have hcb := chkOK ⟨x.day, 1, x.id⟩ (PL x (billP x)) hdy (by simp) (by omega) (by omega) (bR hx hbb) (PL_may hbb) (by rw [amt_PL]; simp [billP]; omega)
      by_cases hw : wok n x df
      · rw [if_pos hw] at w1
        cases hc : x.credit n.am with
        | error e =>
          rw [hc] at w1
          have hne := credit_er hc
          refine ACalls.fgo c6 rfl fun hS => ?_
          repeat' first | with_reducible refine fzD_ite (fun q => ?_) (fun q => ?_) | ((try conv => whnf); first
            | refine bs_f (decide_eq_false hbig) ?_
            | refine bs_t (decide_eq_true rfl) ?_
            | refine bs_t (decide_eq_true (by omega)) ?_
            | refine bs_f (decide_eq_false (by omega)) ?_
            | refine bs_and ?_
            | refine bs_d (fun q => ?_) (fun q => ?_)
            | refine bs_n ?_
            | refine bs_i (fun q => ?_) (fun q => ?_)
            | refine ck (by first | rfl | simp) rfl (b1) ?_
            | refine cq (b1) ?_
            | refine ck (by first | rfl | simp) rfl (w1) ?_
            | refine cq (w1) ?_
            | refine ck (by first | rfl | simp) rfl (hof) ?_
            | refine cq (hof) ?_
            | refine ck (by first | rfl | simp) rfl (hcb) ?_
            | refine cq (hcb) ?_
            | refine ck (by first | rfl | simp) rfl (head) ?_
            | refine cq (head) ?_
            | refine eqk rfl ?_
            | refine ffin _ rfl rfl hS (Sub.refl _) rfl ⟨?_, rfl, rfl⟩)
          all_goals rfl
        | ok p =>
          obtain ⟨now, over⟩ := p
          rw [hc] at w1
          obtain ⟨k1, k2, k3, k4, k5, k6, k7, k8, k9, k10, k11⟩ := credit_now hx hc
          obtain ⟨-, c1, c2⟩ := credit_ok hc
          obtain ⟨d, hd⟩ : ∃ d, d = min n.am df := ⟨_, rfl⟩
          simp only [← hd] at w1
          have hn5 := hw.1
          unfold Nn.ok at hn5
          have hdf3 := hw.2.2
          have hd1 : 0 ≤ d ∧ d ≤ n.am := by omega
          have hwb := wri_b (n := n) (over := over) hd1 ⟨c1, c2⟩ hn5.2.2.2.2.2.1
          have hnd : ((writeQ n d over).map (·.1)).Nodup := by simp [writeQ]
          have hL4 := writeQ_len x n d over
          have hfit := ofS_fit hL4 (PL_amt fun p hp => (hwb p hp).2.2) (PL_acc hnd)
          have hll2 := lns_len (PL x (writeQ n d over))
          have hL2 := wri_len (x := x) (over := over) hd1 ⟨c1, c2⟩ k5
          have o1 := ofC ⟨n.day, 2, n.id⟩ (PL x (writeQ n d over)) 1200 (by omega) (hfit _)
          have o2 := ofC ⟨n.day, 2, n.id⟩ (PL x (writeQ n d over)) 2100 (by omega) (hfit _)
          have o3 := ofC ⟨n.day, 2, n.id⟩ (PL x (writeQ n d over)) 2200 (by omega) (hfit _)
          have o4 := ofC ⟨n.day, 2, n.id⟩ (PL x (writeQ n d over)) 3100 (by omega) (hfit _)
          rw [ofS_PL, show ofP (writeQ n d over) 1200 = over - n.am from by simp [ofP, writeQ]] at o1
          rw [ofS_PL, show ofP (writeQ n d over) 2100 = d from by simp [ofP, writeQ]] at o2
          rw [ofS_PL, show ofP (writeQ n d over) 2200 = -over from by simp [ofP, writeQ]] at o3
          rw [ofS_PL, show ofP (writeQ n d over) 3100 = n.am - d from by simp [ofP, writeQ]] at o4
          have hck := chkOK ⟨n.day, 2, n.id⟩ (PL x (writeQ n d over)) ⟨hn5.2.2.1, hn5.2.2.2.1⟩ (by simp) hL2 (by omega) (bR hx hwb) (PL_may hwb) (by rw [amt_PL]; simp [writeQ]; omega)
          have q1 := Open x hx
          have q2 := Open now k2
          have e1 : IntKind.wrap .i64 (d + (n.am - d)) = n.am := by rw [wi64_id (by unfold I64; omega)]; omega
          have e2 : IntKind.wrap .i64 (over - n.am + -over) = -n.am := by rw [wi64_id (by unfold I64; omega)]; omega
          have e3 : IntKind.wrap .i64 (0 - n.am) = -n.am := by rw [wi64_id (by unfold I64; omega)]; omega
          have e4 : IntKind.wrap .i64 (0 - -over) = over := by rw [wi64_id (by unfold I64; omega)]; omega
          have e5 : IntKind.wrap .i64 (x.pd - now.pd) = over := by rw [wi64_id (by unfold I64; omega)]; omega
          have e6 : IntKind.wrap .i64 (0 - (over - n.am)) = n.am - over := by rw [wi64_id (by unfold I64; omega)]; omega
          have e7 : IntKind.wrap .i64 (x.op - now.op) = n.am - over := by rw [wi64_id (by unfold I64; omega)]; omega
          refine ACalls.fgo c6 rfl fun hS => ?_
          repeat' first | with_reducible refine fzD_ite (fun q => ?_) (fun q => ?_) | ((try conv => whnf); first
            | refine bs_f (decide_eq_false hbig) ?_
            | refine bs_t (decide_eq_true rfl) ?_
            | refine bs_t (decide_eq_true (by omega)) ?_
            | refine bs_f (decide_eq_false (by omega)) ?_
            | refine bs_and ?_
            | refine bs_d (fun q => ?_) (fun q => ?_)
            | refine bs_n ?_
            | refine bs_i (fun q => ?_) (fun q => ?_)
            | refine ck (by first | rfl | simp) rfl (b1) ?_
            | refine cq (b1) ?_
            | refine ck (by first | rfl | simp) rfl (w1) ?_
            | refine cq (w1) ?_
            | refine ck (by first | rfl | simp) rfl (hof) ?_
            | refine cq (hof) ?_
            | refine ck (by first | rfl | simp) rfl (hcb) ?_
            | refine cq (hcb) ?_
            | refine ck (by first | rfl | simp) rfl (o1) ?_
            | refine cq (o1) ?_
            | refine ck (by first | rfl | simp) rfl (o2) ?_
            | refine cq (o2) ?_
            | refine ck (by first | rfl | simp) rfl (o3) ?_
            | refine cq (o3) ?_
            | refine ck (by first | rfl | simp) rfl (o4) ?_
            | refine cq (o4) ?_
            | refine ck (by first | rfl | simp) rfl (hck) ?_
            | refine cq (hck) ?_
            | refine ck (by first | rfl | simp) rfl (q1) ?_
            | refine cq (q1) ?_
            | refine ck (by first | rfl | simp) rfl (q2) ?_
            | refine cq (q2) ?_
            | refine ck (by first | rfl | simp) rfl (head) ?_
            | refine cq (head) ?_
            | refine eqk rfl ?_
            | refine ffin _ rfl rfl hS (Sub.refl _) rfl ⟨?_, rfl, rfl⟩)
          all_goals rfl
      · rw [if_neg hw] at w1
        refine ACalls.fgo c6 rfl fun hS => ?_
        repeat' first | with_reducible refine fzD_ite (fun q => ?_) (fun q => ?_) | ((try conv => whnf); first
          | refine bs_f (decide_eq_false hbig) ?_
          | refine bs_t (decide_eq_true rfl) ?_
          | refine bs_t (decide_eq_true (by omega)) ?_
          | refine bs_f (decide_eq_false (by omega)) ?_
          | refine bs_and ?_
          | refine bs_d (fun q => ?_) (fun q => ?_)
          | refine bs_n ?_
          | refine bs_i (fun q => ?_) (fun q => ?_)
          | refine ck (by first | rfl | simp) rfl (b1) ?_
          | refine cq (b1) ?_
          | refine ck (by first | rfl | simp) rfl (w1) ?_
          | refine cq (w1) ?_
          | refine ck (by first | rfl | simp) rfl (hof) ?_
          | refine cq (hof) ?_
          | refine ck (by first | rfl | simp) rfl (hcb) ?_
          | refine cq (hcb) ?_
          | refine ck (by first | rfl | simp) rfl (head) ?_
          | refine cq (head) ?_
          | refine eqk rfl ?_
          | refine ffin _ rfl rfl hS (Sub.refl _) rfl ⟨?_, rfl, rfl⟩)
        all_goals rfl
  · rw [if_neg hok] at b1
    by_cases hw : wok n x df
    · rw [if_pos hw] at w1
      cases hc : x.credit n.am with
      | error e =>
        rw [hc] at w1
        have hne := credit_er hc
        refine ACalls.fgo c6 rfl fun hS => ?_
        repeat' first | with_reducible refine fzD_ite (fun q => ?_) (fun q => ?_) | ((try conv => whnf); first
          | refine bs_f (decide_eq_false hbig) ?_
          | refine bs_t (decide_eq_true rfl) ?_
          | refine bs_t (decide_eq_true (by omega)) ?_
          | refine bs_f (decide_eq_false (by omega)) ?_
          | refine bs_and ?_
          | refine bs_d (fun q => ?_) (fun q => ?_)
          | refine bs_n ?_
          | refine bs_i (fun q => ?_) (fun q => ?_)
          | refine ck (by first | rfl | simp) rfl (b1) ?_
          | refine cq (b1) ?_
          | refine ck (by first | rfl | simp) rfl (w1) ?_
          | refine cq (w1) ?_
          | refine ck (by first | rfl | simp) rfl (head) ?_
          | refine cq (head) ?_
          | refine eqk rfl ?_
          | refine ffin _ rfl rfl hS (Sub.refl _) rfl ⟨?_, rfl, rfl⟩)
        all_goals rfl
      | ok p =>
        obtain ⟨now, over⟩ := p
        exact absurd (credit_ok hc).1 hok
    · rw [if_neg hw] at w1
      refine ACalls.fgo c6 rfl fun hS => ?_
      repeat' first | with_reducible refine fzD_ite (fun q => ?_) (fun q => ?_) | ((try conv => whnf); first
        | refine bs_f (decide_eq_false hbig) ?_
        | refine bs_t (decide_eq_true rfl) ?_
        | refine bs_t (decide_eq_true (by omega)) ?_
        | refine bs_f (decide_eq_false (by omega)) ?_
        | refine bs_and ?_
        | refine bs_d (fun q => ?_) (fun q => ?_)
        | refine bs_n ?_
        | refine bs_i (fun q => ?_) (fun q => ?_)
        | refine ck (by first | rfl | simp) rfl (b1) ?_
        | refine cq (b1) ?_
        | refine ck (by first | rfl | simp) rfl (w1) ?_
        | refine cq (w1) ?_
        | refine ck (by first | rfl | simp) rfl (head) ?_
        | refine cq (head) ?_
        | refine eqk rfl ?_
        | refine ffin _ rfl rfl hS (Sub.refl _) rfl ⟨?_, rfl, rfl⟩)
      all_goals rfl
end Go.KL.Ytgdidchpignbpaa
