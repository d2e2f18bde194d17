/- JournalLeaves -/
import Derived.Test.YtogpeefldehnkaaJg
set_option linter.unusedVariables false
set_option linter.unusedSimpArgs false
set_option linter.unusedSectionVars false
set_option maxRecDepth 4000
namespace Go.KL.Ytogpeefldehnkaa.J
open Go Go.KL Go.RowKit Go.Proofs Go.KL.Ytogpeefldehnkaa

theorem c5 : cFun E0.P 5 = some ⟨95, [(4, none)], .seq (.rg [⟨some 2, none, .box (.t 0) 39⟩, ⟨some 4, none, .mv (.k (.bool false))⟩]) (.seq (.seq (.rg [⟨some 12, none, .fa 3 (.t 2)⟩, ⟨some 13, none, .ld 1 false (.t 12)⟩, ⟨some 14, none, .len 1 (.t 13)⟩, ⟨some 15, none, .bin .gtr .leaf (.t 14) (.k (.int .i64 100))⟩, ⟨some 16, none, .mv (.t 15)⟩, ⟨some 17, some (16, false), .mv (.t 1)⟩, ⟨some 18, some (16, false), .len 1 (.t 17)⟩, ⟨some 19, some (16, false), .bin .gtr .leaf (.t 18) (.k (.int .i64 10))⟩, ⟨some 20, none, .pick (.t 16) (.k (.bool true)) (.t 19)⟩]) (.cond (.t 20) (.seq (.rg [⟨some 21, none, .call 10 []⟩, ⟨some 4, none, .mv (.t 21)⟩]) .ret) .skip)) (.seq (.rg [⟨some 22, none, .mv (.t 1)⟩, ⟨some 23, none, .call 16 [.t 22]⟩, ⟨some 5, none, .mv (.t 23)⟩]) (.seq (.rg [⟨some 24, none, .ld 4 true (.t 2)⟩, ⟨some 25, none, .call 17 [.t 24]⟩, ⟨some 6, none, .mv (.t 25)⟩]) (.seq (.rg [⟨some 26, none, .mv (.t 5)⟩, ⟨some 27, none, .ld 4 true (.t 2)⟩, ⟨some 28, none, .call 18 [.t 26, .t 27]⟩, ⟨some 7, none, .mv (.t 28)⟩]) (.seq (.seq (.rg [⟨some 29, none, .mv (.t 6)⟩, ⟨some 30, none, .bin .neq .leaf (.t 29) (.k (.int .i64 0))⟩]) (.cond (.t 30) (.seq (.rg [⟨some 31, none, .mv (.t 6)⟩, ⟨some 32, none, .mv (.t 7)⟩, ⟨some 33, none, .bin .eql .leaf (.t 31) (.t 32)⟩, ⟨some 34, none, .mv (.t 33)⟩, ⟨some 35, some (34, true), .call 10 []⟩, ⟨some 36, none, .pick (.t 34) (.t 35) (.k (.bool false))⟩, ⟨some 4, none, .mv (.t 36)⟩]) .ret) .skip)) (.seq (.rg [⟨some 8, none, .mv (.k (.bool true))⟩]) (.seq (.seq (.rg [⟨some 9, none, .mv (.k (.int .i64 0))⟩]) (.block 0 (.loop (.seq (.seq (.rg [⟨some 37, none, .mv (.t 9)⟩, ⟨some 38, none, .fa 3 (.t 2)⟩, ⟨some 39, none, .ld 1 false (.t 38)⟩, ⟨some 40, none, .len 1 (.t 39)⟩, ⟨some 41, none, .bin .lss .leaf (.t 37) (.t 40)⟩]) (.cond (.t 41) .skip (.exit 0))) (.seq (.block 1 (.seq (.rg [⟨some 45, none, .mv (.t 5)⟩, ⟨some 46, none, .fa 3 (.t 2)⟩, ⟨some 47, none, .ld 1 false (.t 46)⟩, ⟨some 48, none, .mv (.t 9)⟩, ⟨some 49, none, .ia 4 (.t 47) (.t 48)⟩, ⟨some 50, none, .fa 0 (.t 49)⟩, ⟨some 51, none, .ld 1 false (.t 50)⟩, ⟨some 52, none, .call 19 [.t 45, .t 51]⟩, ⟨some 44, none, .mv (.t 52)⟩, ⟨some 53, none, .ext 0 (.t 44)⟩, ⟨some 54, none, .ext 1 (.t 44)⟩, ⟨some 10, none, .alloc [.int .i64 0, .int .i64 0, .int .u8 0, .str ⟨#[]⟩, .bool false] 46⟩, ⟨none, none, .st 5 (.t 10) (.t 53)⟩, ⟨some 11, none, .mv (.t 54)⟩]) (.rg [⟨some 55, none, .mv (.t 8)⟩, ⟨some 56, none, .mv (.t 55)⟩, ⟨some 57, some (56, true), .mv (.t 11)⟩, ⟨some 58, some (56, true), .bin .eql .leaf (.t 57) (.k (.int .i64 0))⟩, ⟨some 59, none, .pick (.t 56) (.t 58) (.k (.bool false))⟩, ⟨some 60, none, .mv (.t 59)⟩, ⟨some 61, some (60, true), .fa 4 (.t 10)⟩, ⟨some 62, some (60, true), .ld 1 false (.t 61)⟩, ⟨some 63, some (60, true), .un .not (.t 62)⟩, ⟨some 64, none, .pick (.t 60) (.t 63) (.k (.bool false))⟩, ⟨some 65, none, .mv (.t 64)⟩, ⟨some 66, some (65, true), .fa 2 (.t 10)⟩, ⟨some 67, some (65, true), .ld 1 false (.t 66)⟩, ⟨some 68, some (65, true), .call 20 [.t 67]⟩, ⟨some 69, some (65, true), .bin .neq .leaf (.t 68) (.k (.int .i64 0))⟩, ⟨some 70, none, .pick (.t 65) (.t 69) (.k (.bool false))⟩, ⟨some 71, none, .mv (.t 70)⟩, ⟨some 72, some (71, true), .mv (.t 5)⟩, ⟨some 73, some (71, true), .fa 0 (.t 10)⟩, ⟨some 74, some (71, true), .ld 1 false (.t 73)⟩, ⟨some 75, some (71, true), .call 21 [.t 72, .t 74]⟩, ⟨some 76, none, .pick (.t 71) (.t 75) (.k (.bool false))⟩, ⟨some 8, none, .mv (.t 76)⟩]))) (.rg [⟨some 42, none, .mv (.t 9)⟩, ⟨some 43, none, .bin .add .leaf (.t 42) (.k (.int .i64 1))⟩, ⟨some 9, none, .mv (.t 43)⟩])))))) (.seq (.rg [⟨some 77, none, .mv (.t 8)⟩, ⟨some 78, none, .mv (.t 7)⟩, ⟨some 79, none, .bin .eql .leaf (.t 78) (.k (.int .i64 0))⟩, ⟨some 80, none, .bin .eql .leafB (.t 77) (.t 79)⟩, ⟨some 81, none, .mv (.t 80)⟩, ⟨some 82, some (81, true), .mv (.t 8)⟩, ⟨some 83, some (81, true), .mv (.t 82)⟩, ⟨some 84, some (83, false), .mv (.t 7)⟩, ⟨some 85, some (83, false), .bin .eql .leaf (.t 84) (.k (.int .i64 7))⟩, ⟨some 86, some (81, true), .pick (.t 83) (.k (.bool true)) (.t 85)⟩, ⟨some 87, some (81, true), .mv (.t 86)⟩, ⟨some 88, some (87, false), .mv (.t 7)⟩, ⟨some 89, some (87, false), .bin .eql .leaf (.t 88) (.k (.int .i64 9))⟩, ⟨some 90, some (81, true), .pick (.t 87) (.k (.bool true)) (.t 89)⟩, ⟨some 91, none, .pick (.t 81) (.t 90) (.k (.bool false))⟩, ⟨some 92, none, .mv (.t 91)⟩, ⟨some 93, some (92, true), .call 10 []⟩, ⟨some 94, none, .pick (.t 92) (.t 93) (.k (.bool false))⟩, ⟨some 4, none, .mv (.t 94)⟩]) .ret))))))))⟩ := by kernel_rfl

theorem get_cN {ql : AcL} {d : D} {o : O} {S : List O} {tk : Tks} {cid mid : Nat} {k : Int} (hd : getF (look ql) k = d) (hch : Ch (look ql) o) (hc : S[cid]? = some (.arr [.map mid])) (hm : S[mid]? = some o) :
    ACalls E0 19 [.po cid 0, .int .i64 k] S tk (fun r S' tk' => r = d ∧ S' = S ∧ tk' = tk) := hd ▸ get_c hch hc hm k
theorem leaf_cN {ql : AcL} {b : Bool} {o : O} {S : List O} {tk : Tks} {cid mid : Nat} {k : Int} (hok : OkQ ql) (hl : ql.length < 1000000) (hb : lfQ ql k = b) (hch : Ch (look ql) o) (hc : S[cid]? = some (.arr [.map mid])) (hm : S[mid]? = some o) :
    ACalls E0 21 [.po cid 0, .int .i64 k] S tk (fun r S' tk' => r = .bool b ∧ S' = S ∧ tk' = tk) := by
  subst hb
  exact leaf_c hch hc hm hok.keys (by rw [List.length_map]; exact hl) k (hok.und hl k)
structure LvS where
  i : Nat
  b : Bool
theorem chO {ql : AcL} {o : O} (hch : Ch (look ql) o) {e : Ent} {n m k : Nat} (hk : k < n := by simp) : oScL n m [.arr [.int .i64 e.day, .int .u8 e.kind, .int .u64 e.src, .sl (lns e.L)], o, .arr [.map k]] = true := by
  show (oSc n m _ && oScL n m [o, .arr [.map k]]) = true
  rw [ch_oc hch hk]
  simp [oSc, scL, D.sc, scLL_lns]
set_option maxHeartbeats 2000000 in
theorem leavesW {e : Ent} (hR : e.R) {more : AcL} (B1 : ¬ ((lns e.L).length : Int) > 100) (B2 : ¬ ((acsL more).length : Int) > 10) {ql : AcL}
    (hst : ∀ {n : Nat} {S : List O} {tk : Tks}, S.length = n → ACalls E0 16 [.sl (acsL more)] S tk (fun r S' tk' => ∃ o, (r = .po (n + 1) 0 ∧ Ch (look ql) o) ∧ S' = S ++ [o, .arr [.map n]] ∧ tk' = tk))
    (hok : OkQ ql) (hql : ql.length < 1000000) (hside : ∀ x ∈ ql, sideF x.cl ≠ 0) (hc : Pure 17 [e.d] (.int .i64 0)) {n : Int} (hn : onN ql e = n) (hfin : (n = 0 ↔ e.L.all (fineA ql) = true) ∧ (n = 0 ∨ n = 7 ∨ n = 9)) :
    Pure 5 [e.d, .sl (acsL more)] (.bool true) := by
  intro S tk
  have hlen := lns_len e.L
  refine ACalls.fgo c5 rfl fun hS => ?_
  repeat' first | with_reducible refine fzD_ite (fun q => ?_) (fun q => ?_) | ((try conv => whnf); first
    | refine bs_f (decide_eq_false B1) ?_
    | refine bs_f (decide_eq_false B2) ?_
    | refine bs_d (fun q => ?_) (fun q => ?_)
    | refine bs_n ?_
    | refine bs_i (fun q => ?_) (fun q => ?_)
    | refine ck (by first | rfl | simp) rfl (hc) ?_
    | refine cq (hc) ?_
    | (refine ckNE (G := fun r o => r = .po (S.length + 1 + 1) 0 ∧ Ch (look ql) o) (Jn := fun o => [o, .arr [.map (S.length + 1)]]) (ds' := [.sl (acsL more)]) rfl rfl (hst (by simp)) (.cons (Sub.refl _) .nil) ?_; rintro r o ⟨rfl, hch⟩)
    | refine ckA rfl rfl (on_cN (cid := S.length + 2) (mid := S.length + 1) hn hch (at_own (k := 2) rfl rfl) (at_own (k := 1) rfl rfl) hok hql hR) ?_
    | refine eqk rfl ?_
    | refine ffin _ rfl rfl hS (Sub.refl _) rfl ⟨?_, rfl, rfl⟩)
  conv => whnf
  refine floop (α := LvS) rfl rfl hS (fun s => s.i ≤ e.L.length ∧ (e.L.take s.i).all (fineA ql) = s.b) (fun s => e.L.length - s.i) (fun s => [(9, .d (.int .i64 s.i)), (8, .d (.bool s.b)), (2, .lp 0 0), (5, .d (.po (S.length + 2) 0)), (7, .d (.int .i64 n))]) (fun _ => [.arr [.int .i64 e.day, .int .u8 e.kind, .int .u64 e.src, .sl (lns e.L)], o, .arr [.map (S.length + 1)]]) (fun _ => []) ⟨0, true⟩ ⟨Nat.zero_le _, rfl⟩ (fstep_sub ⟨Sub.refl _, Sub.refl _, Sub.refl _, Sub.refl _, Sub.refl _, trivial⟩) ?_
  rintro ⟨i, b⟩ ⟨hi, hb⟩
  simp only at hi hb ⊢
  by_cases hlt : i < e.L.length
  · have hst2 : (e.L.take (i + 1)).all (fineA ql) = (b && fineA ql e.L[i]!) := by rw [take_snA hlt, List.all_append, hb]; simp
    have C1 : (i : Int) < (lns e.L).length := by omega
    have gx : ∃ (a : Go.KL.Ytogpeefldehnkaa.Ac) (f : Int), getF (look ql) (e.L[i]!).acc = .tup [.agg a.cs, .int .i64 f] ∧ ((f = 7 ∧ fineA ql e.L[i]! = false) ∨ (f = 0 ∧ fineA ql e.L[i]! = (!a.sh && lfQ ql a.code) ∧ sideF a.cl ≠ 0)) := by
      cases hx : look ql (e.L[i]!).acc with
      | none => exact ⟨noAc, 7, by rw [getF, hx]; rfl, .inl ⟨rfl, by rw [fineA, hx]⟩⟩
      | some a =>
        obtain ⟨h1, h2⟩ := look_mem hx
        exact ⟨a, 0, by rw [getF, hx]; rfl, .inr ⟨rfl, by rw [fineA, hx, h2], hside a h1⟩⟩
    obtain ⟨a, f, hg, hcs⟩ := gx
    obtain ⟨ac, au, acl, anm, ash⟩ := a
    cases b with
    | false =>
      rw [Bool.false_and] at hst2
      repeat' first | with_reducible refine fzD_ite (fun q => ?_) (fun q => ?_) | ((try conv => whnf); first
        | refine bs_t (decide_eq_true C1) ?_
        | refine bs_d (fun q => ?_) (fun q => ?_)
        | refine bs_n ?_
        | refine bs_i (fun q => ?_) (fun q => ?_)
        | refine pK_i (iaD_ln (i := i) rfl hlt) ?_
        | refine ckA rfl rfl (get_cN (cid := S.length + 2) (mid := S.length + 1) hg hch (at_own (k := 2) rfl rfl) (at_own (k := 1) rfl rfl)) ?_
        | refine eqk rfl ?_
        | refine ffin _ rfl rfl hS (Sub.refl _) rfl ⟨?_, rfl, rfl⟩)
      conv => whnf
      exact fnext (α := LvS) ⟨i + 1, false⟩ ⟨by simp only; omega, hst2⟩ (by simp only; omega) (fstep_drop (J' := [_, _, _]) (Jx := [_]) (TK' := []) (TKx := []) rfl rfl ⟨Sub.int (by first | rfl | omega | (refine Int.sub_eq_zero.mp ?_; simp (disch := ((try unfold I64); omega)) only [wi64_id, td]; omega)), Sub.refl _, Sub.refl _, Sub.refl _, Sub.refl _, trivial⟩ (by simp [frD, FD.to, frSc, D.sc]) (chO hch))
    | true =>
      rw [Bool.true_and] at hst2
      rcases hcs with ⟨rfl, hf⟩ | ⟨rfl, hf, hsd⟩
      · rw [hf] at hst2
        repeat' first | with_reducible refine fzD_ite (fun q => ?_) (fun q => ?_) | ((try conv => whnf); first
          | refine bs_t (decide_eq_true C1) ?_
          | refine bs_d (fun q => ?_) (fun q => ?_)
          | refine bs_n ?_
          | refine bs_i (fun q => ?_) (fun q => ?_)
          | refine pK_i (iaD_ln (i := i) rfl hlt) ?_
          | refine ckA rfl rfl (get_cN (cid := S.length + 2) (mid := S.length + 1) hg hch (at_own (k := 2) rfl rfl) (at_own (k := 1) rfl rfl)) ?_
          | refine eqk rfl ?_
          | refine ffin _ rfl rfl hS (Sub.refl _) rfl ⟨?_, rfl, rfl⟩)
        conv => whnf
        exact fnext (α := LvS) ⟨i + 1, false⟩ ⟨by simp only; omega, hst2⟩ (by simp only; omega) (fstep_drop (J' := [_, _, _]) (Jx := [_]) (TK' := []) (TKx := []) rfl rfl ⟨Sub.int (by first | rfl | omega | (refine Int.sub_eq_zero.mp ?_; simp (disch := ((try unfold I64); omega)) only [wi64_id, td]; omega)), Sub.refl _, Sub.refl _, Sub.refl _, Sub.refl _, trivial⟩ (by simp [frD, FD.to, frSc, D.sc]) (chO hch))
      · simp only at hf hsd
        cases ash with
        | true =>
          rw [hf, Bool.not_true, Bool.false_and] at hst2
          repeat' first | with_reducible refine fzD_ite (fun q => ?_) (fun q => ?_) | ((try conv => whnf); first
            | refine bs_t (decide_eq_true C1) ?_
            | refine bs_d (fun q => ?_) (fun q => ?_)
            | refine bs_n ?_
            | refine bs_i (fun q => ?_) (fun q => ?_)
            | refine pK_i (iaD_ln (i := i) rfl hlt) ?_
            | refine ckA rfl rfl (get_cN (cid := S.length + 2) (mid := S.length + 1) hg hch (at_own (k := 2) rfl rfl) (at_own (k := 1) rfl rfl)) ?_
            | refine eqk rfl ?_
            | refine ffin _ rfl rfl hS (Sub.refl _) rfl ⟨?_, rfl, rfl⟩)
          conv => whnf
          exact fnext (α := LvS) ⟨i + 1, false⟩ ⟨by simp only; omega, hst2⟩ (by simp only; omega) (fstep_drop (J' := [_, _, _]) (Jx := [_]) (TK' := []) (TKx := []) rfl rfl ⟨Sub.int (by first | rfl | omega | (refine Int.sub_eq_zero.mp ?_; simp (disch := ((try unfold I64); omega)) only [wi64_id, td]; omega)), Sub.refl _, Sub.refl _, Sub.refl _, Sub.refl _, trivial⟩ (by simp [frD, FD.to, frSc, D.sc]) (chO hch))
        | false =>
          rw [hf, Bool.not_false, Bool.true_and] at hst2
          have hs2 := side2 acl
          obtain ⟨sd, hsd2⟩ : ∃ sd, sd = sideF acl := ⟨_, rfl⟩
          rw [← hsd2] at hs2 hsd
          have lf2 : lfQ ql ac = fineA ql e.L[i]! := hf.symm
          obtain ⟨bb, hbb⟩ : ∃ bb, bb = lfQ ql ac := ⟨_, rfl⟩
          rw [← hbb] at hst2
          cases bb with
          | true =>
            repeat' first | with_reducible refine fzD_ite (fun q => ?_) (fun q => ?_) | ((try conv => whnf); first
              | refine bs_t (decide_eq_true C1) ?_
              | refine bs_f (decide_eq_false hsd) ?_
              | refine bs_d (fun q => ?_) (fun q => ?_)
              | refine bs_n ?_
              | refine bs_i (fun q => ?_) (fun q => ?_)
              | refine pK_i (iaD_ln (i := i) rfl hlt) ?_
              | refine ckA rfl rfl (get_cN (cid := S.length + 2) (mid := S.length + 1) hg hch (at_own (k := 2) rfl rfl) (at_own (k := 1) rfl rfl)) ?_
              | refine ck (by first | rfl | simp) rfl (hs2) ?_
              | refine cq (hs2) ?_
              | refine ckA rfl rfl (leaf_cN (cid := S.length + 2) (mid := S.length + 1) hok hql hbb.symm hch (at_own (k := 2) rfl rfl) (at_own (k := 1) rfl rfl)) ?_
              | refine eqk rfl ?_
              | refine ffin _ rfl rfl hS (Sub.refl _) rfl ⟨?_, rfl, rfl⟩)
            conv => whnf
            exact fnext (α := LvS) ⟨i + 1, true⟩ ⟨by simp only; omega, hst2⟩ (by simp only; omega) (fstep_drop (J' := [_, _, _]) (Jx := [_]) (TK' := []) (TKx := []) rfl rfl ⟨Sub.int (by first | rfl | omega | (refine Int.sub_eq_zero.mp ?_; simp (disch := ((try unfold I64); omega)) only [wi64_id, td]; omega)), Sub.refl _, Sub.refl _, Sub.refl _, Sub.refl _, trivial⟩ (by simp [frD, FD.to, frSc, D.sc]) (chO hch))
          | false =>
            repeat' first | with_reducible refine fzD_ite (fun q => ?_) (fun q => ?_) | ((try conv => whnf); first
              | refine bs_t (decide_eq_true C1) ?_
              | refine bs_f (decide_eq_false hsd) ?_
              | refine bs_d (fun q => ?_) (fun q => ?_)
              | refine bs_n ?_
              | refine bs_i (fun q => ?_) (fun q => ?_)
              | refine pK_i (iaD_ln (i := i) rfl hlt) ?_
              | refine ckA rfl rfl (get_cN (cid := S.length + 2) (mid := S.length + 1) hg hch (at_own (k := 2) rfl rfl) (at_own (k := 1) rfl rfl)) ?_
              | refine ck (by first | rfl | simp) rfl (hs2) ?_
              | refine cq (hs2) ?_
              | refine ckA rfl rfl (leaf_cN (cid := S.length + 2) (mid := S.length + 1) hok hql hbb.symm hch (at_own (k := 2) rfl rfl) (at_own (k := 1) rfl rfl)) ?_
              | refine eqk rfl ?_
              | refine ffin _ rfl rfl hS (Sub.refl _) rfl ⟨?_, rfl, rfl⟩)
            conv => whnf
            exact fnext (α := LvS) ⟨i + 1, false⟩ ⟨by simp only; omega, hst2⟩ (by simp only; omega) (fstep_drop (J' := [_, _, _]) (Jx := [_]) (TK' := []) (TKx := []) rfl rfl ⟨Sub.int (by first | rfl | omega | (refine Int.sub_eq_zero.mp ?_; simp (disch := ((try unfold I64); omega)) only [wi64_id, td]; omega)), Sub.refl _, Sub.refl _, Sub.refl _, Sub.refl _, trivial⟩ (by simp [frD, FD.to, frSc, D.sc]) (chO hch))
  · have hall : e.L.all (fineA ql) = b := by rw [← hb, List.take_of_length_le (by omega)]
    rw [hall] at hfin
    have C1 : ¬ (i : Int) < (lns e.L).length := by omega
    obtain ⟨f1, f2⟩ := hfin
    cases b with
    | true =>
      obtain rfl : n = 0 := f1.2 rfl
      repeat' first | with_reducible refine fzD_ite (fun q => ?_) (fun q => ?_) | ((try conv => whnf); first
        | refine bs_f (decide_eq_false C1) ?_
        | refine bs_d (fun q => ?_) (fun q => ?_)
        | refine bs_n ?_
        | refine bs_i (fun q => ?_) (fun q => ?_)
        | refine ck (by first | rfl | simp) rfl (head) ?_
        | refine cq (head) ?_
        | refine eqk rfl ?_
        | refine ffin _ rfl rfl hS (Sub.refl _) rfl ⟨?_, rfl, rfl⟩)
      all_goals rfl
    | false =>
      have hn0 : n ≠ 0 := fun h => by have := f1.1 h; cases this
      repeat' first | with_reducible refine fzD_ite (fun q => ?_) (fun q => ?_) | ((try conv => whnf); first
        | refine bs_f (decide_eq_false C1) ?_
        | refine bs_f (decide_eq_false hn0) ?_
        | refine bs_d (fun q => ?_) (fun q => ?_)
        | refine bs_n ?_
        | refine bs_i (fun q => ?_) (fun q => ?_)
        | refine ck (by first | rfl | simp) rfl (head) ?_
        | refine cq (head) ?_
        | refine eqk rfl ?_
        | refine ffin _ rfl rfl hS (Sub.refl _) rfl ⟨?_, rfl, rfl⟩)
      all_goals first | rfl | (exfalso; omega)
theorem journalLeaves (e : Ent) (hR : e.R) (more : AcL) : Pure 5 [e.d, .sl (acsL more)] (.bool true) := by
  have hlen := lns_len e.L
  have hlm := acsL_len more
  by_cases hbig : (e.L.length : Int) > 100 ∨ (more.length : Int) > 10
  · intro S tk
    refine ACalls.fgo c5 rfl fun hS => ?_
    repeat' first | with_reducible refine fzD_ite (fun q => ?_) (fun q => ?_) | ((try conv => whnf); first
      | refine bs_d (fun q => ?_) (fun q => ?_)
      | refine bs_n ?_
      | refine bs_i (fun q => ?_) (fun q => ?_)
      | refine ck (by first | rfl | simp) rfl (head) ?_
      | refine cq (head) ?_
      | refine eqk rfl ?_
      | refine ffin _ rfl rfl hS (Sub.refl _) rfl ⟨?_, rfl, rfl⟩)
    all_goals first | rfl | (exfalso; omega)
  have hc := Check e hR
  obtain ⟨hok0, hql0⟩ := stdQ_ok more
  have hst := fun {n : Nat} {S : List O} {tk : Tks} (h : S.length = n) => std_at more (by omega) (tk := tk) h
  have B1 : ¬ ((lns e.L).length : Int) > 100 := by omega
  have B2 : ¬ ((acsL more).length : Int) > 10 := by omega
  have hql : (stdQ more).length < 1000000 := by omega
  by_cases h0 : e.chk = 0
  · rw [h0] at hc
    have hn : onN (stdQ more) e = onL (stdQ more) e.L := by rw [onN, if_pos h0]
    exact leavesW hR B1 B2 hst hok0 hql (std_side more) hc hn (onL_fine _ _)
  · have hn : onN (stdQ more) e = e.chk := by rw [onN, if_neg h0]
    obtain ⟨c, hcc⟩ : ∃ c, c = e.chk := ⟨_, rfl⟩
    rw [← hcc] at hc hn h0
    intro S tk
    refine ACalls.fgo c5 rfl fun hS => ?_
    repeat' first | with_reducible refine fzD_ite (fun q => ?_) (fun q => ?_) | ((try conv => whnf); first
      | refine bs_f (decide_eq_false B1) ?_
      | refine bs_f (decide_eq_false B2) ?_
      | refine bs_f (decide_eq_false h0) ?_
      | refine bs_t (decide_eq_true rfl) ?_
      | refine bs_d (fun q => ?_) (fun q => ?_)
      | refine bs_n ?_
      | refine bs_i (fun q => ?_) (fun q => ?_)
      | refine ck (by first | rfl | simp) rfl (hc) ?_
      | refine cq (hc) ?_
      | (refine ckNE (G := fun r o => r = .po (S.length + 1 + 1) 0 ∧ Ch (look (stdQ more)) o) (Jn := fun o => [o, .arr [.map (S.length + 1)]]) (ds' := [.sl (acsL more)]) rfl rfl (hst (by simp)) (.cons (Sub.refl _) .nil) ?_; rintro r o ⟨rfl, hch⟩)
      | refine ckA rfl rfl (on_cN (cid := S.length + 2) (mid := S.length + 1) hn hch (at_own (k := 2) rfl rfl) (at_own (k := 1) rfl rfl) hok0 hql hR) ?_
      | refine ck (by first | rfl | simp) rfl (head) ?_
      | refine cq (head) ?_
      | refine eqk rfl ?_
      | refine ffin _ rfl rfl hS (Sub.refl _) rfl ⟨?_, rfl, rfl⟩)
    all_goals rfl
end Go.KL.Ytogpeefldehnkaa.J
