/- books: what is told, Close, New, maps.Copy -/
import Derived.Test.YtkojphmejddhiaaGreatDoorBd
import Derived.Test.YtkojphmejddhiaaGreatDoorKL29
import Derived.Test.YtkojphmejddhiaaGreatDoorRows
import Derived.Test.YtkojphmejddhiaaGreatDoorTie
set_option linter.unusedVariables false
set_option linter.unusedSimpArgs false
set_option linter.unusedSectionVars false
set_option maxRecDepth 100000
set_option maxHeartbeats 4000000
namespace Go.KL.YtkojphmejddhiaaGreatDoor.J
open Go Go.KL Go.RowKit Go.Proofs Go.KL.YtkojphmejddhiaaGreatDoor
theorem c33 : cFun E0.P 33 = some ⟨12, [(2, none)], .seq (.rg [⟨some 2, none, .mv (.k (.bool false))⟩]) (.seq (.rg [⟨some 3, none, .mv (.t 0)⟩, ⟨some 4, none, .bin .eql .ptr (.t 3) (.k .nilp)⟩, ⟨some 5, none, .mv (.t 4)⟩, ⟨some 6, some (5, false), .mv (.t 0)⟩, ⟨some 7, some (5, false), .nilck (.t 6)⟩, ⟨some 8, some (5, false), .fa 2 (.t 7)⟩, ⟨some 9, some (5, false), .ld 1 false (.t 8)⟩, ⟨some 10, some (5, false), .bin .eql .map (.t 9) (.k .nilmap)⟩, ⟨some 11, none, .pick (.t 5) (.k (.bool true)) (.t 10)⟩, ⟨some 2, none, .mv (.t 11)⟩]) .ret)⟩ := by kernel_rfl
theorem c49 : cFun E0.P 49 = some ⟨20, [(8, none)], .seq (.rg [⟨some 8, none, .mv (.k (.int .i64 0))⟩]) (.seq (.seq (.rg [⟨some 9, none, .mv (.t 0)⟩, ⟨some 10, none, .call 33 [.t 9]⟩]) (.cond (.t 10) (.seq (.rg [⟨some 8, none, .mv (.k (.int .i64 0))⟩]) .ret) .skip)) (.seq (.rg [⟨some 11, none, .mv (.t 0)⟩, ⟨some 12, none, .nilck (.t 11)⟩, ⟨some 13, none, .fa 2 (.t 12)⟩, ⟨some 14, none, .ld 1 false (.t 13)⟩, ⟨some 15, none, .mv (.t 1)⟩, ⟨some 16, none, .mv (.t 2)⟩, ⟨some 17, none, .mv (.t 3)⟩, ⟨some 18, none, .build [.int .i64 0, .int .i64 0, .int .u64 0] [(0, 1, .t 15), (1, 1, .t 16), (2, 1, .t 17)]⟩, ⟨some 19, none, .mget (KT.agg [KLf.i .i64, KLf.i .i64, KLf.i .u64]) (.int .i64 0) false (.t 14) (.t 18)⟩, ⟨some 8, none, .mv (.t 19)⟩]) .ret))⟩ := by kernel_rfl
theorem c22 : cFun E0.P 22 = some ⟨11, [(6, none)], .seq (.rg [⟨some 6, none, .mv (.k (.int .i64 0))⟩]) (.seq (.rg [⟨some 7, none, .mv (.t 0)⟩, ⟨some 8, none, .mv (.t 1)⟩, ⟨some 9, none, .mv (.t 2)⟩, ⟨some 10, none, .call 49 [.t 7, .t 8, .k (.int .i64 1), .t 9]⟩, ⟨some 6, none, .mv (.t 10)⟩]) .ret)⟩ := by kernel_rfl
theorem c46 : cFun E0.P 46 = some ⟨11, [(6, none)], .seq (.rg [⟨some 6, none, .mv (.k (.int .i64 0))⟩]) (.seq (.rg [⟨some 7, none, .mv (.t 0)⟩, ⟨some 8, none, .mv (.t 1)⟩, ⟨some 9, none, .mv (.t 2)⟩, ⟨some 10, none, .call 49 [.t 7, .t 8, .k (.int .i64 2), .t 9]⟩, ⟨some 6, none, .mv (.t 10)⟩]) .ret)⟩ := by kernel_rfl
theorem c23 : cFun E0.P 23 = some ⟨14, [(6, none)], .seq (.rg [⟨some 6, none, .mv (.k (.int .i64 0))⟩]) (.seq (.seq (.rg [⟨some 7, none, .mv (.t 2)⟩, ⟨some 8, none, .bin .lss .leaf (.t 7) (.k (.int .i64 1))⟩]) (.cond (.t 8) (.seq (.rg [⟨some 6, none, .mv (.k (.int .i64 0))⟩]) .ret) .skip)) (.seq (.rg [⟨some 9, none, .mv (.t 0)⟩, ⟨some 10, none, .mv (.t 1)⟩, ⟨some 11, none, .mv (.t 2)⟩, ⟨some 12, none, .conv .u64 (.t 11)⟩, ⟨some 13, none, .call 49 [.t 9, .t 10, .k (.int .i64 3), .t 12]⟩, ⟨some 6, none, .mv (.t 13)⟩]) .ret))⟩ := by kernel_rfl
theorem c42 : cFun E0.P 42 = some ⟨9, [(2, none)], .seq (.rg [⟨some 2, none, .mv (.k (.int .i64 0))⟩]) (.seq (.seq (.rg [⟨some 3, none, .mv (.t 0)⟩, ⟨some 4, none, .call 33 [.t 3]⟩]) (.cond (.t 4) (.seq (.rg [⟨some 2, none, .mv (.k (.int .i64 0))⟩]) .ret) .skip)) (.seq (.rg [⟨some 5, none, .mv (.t 0)⟩, ⟨some 6, none, .nilck (.t 5)⟩, ⟨some 7, none, .fa 3 (.t 6)⟩, ⟨some 8, none, .ld 1 false (.t 7)⟩, ⟨some 2, none, .mv (.t 8)⟩]) .ret))⟩ := by kernel_rfl
theorem c43 : cFun E0.P 43 = some ⟨10, [(2, none)], .seq (.rg [⟨some 2, none, .mv (.k (.int .i64 0))⟩]) (.seq (.seq (.rg [⟨some 3, none, .mv (.t 0)⟩, ⟨some 4, none, .call 33 [.t 3]⟩]) (.cond (.t 4) (.seq (.rg [⟨some 2, none, .mv (.k (.int .i64 0))⟩]) .ret) .skip)) (.seq (.rg [⟨some 5, none, .mv (.t 0)⟩, ⟨some 6, none, .nilck (.t 5)⟩, ⟨some 7, none, .fa 1 (.t 6)⟩, ⟨some 8, none, .ld 1 false (.t 7)⟩, ⟨some 9, none, .len 1 (.t 8)⟩, ⟨some 2, none, .mv (.t 9)⟩]) .ret))⟩ := by kernel_rfl
theorem c12 : cFun E0.P 12 = some ⟨26, [(4, none)], .seq (.rg [⟨some 4, none, .mv (.k (.int .i64 0))⟩]) (.seq (.block 0 (.seq (.rg [⟨some 6, none, .mv (.t 0)⟩, ⟨some 7, none, .call 33 [.t 6]⟩, ⟨some 5, none, .mv (.t 7)⟩]) (.cond (.t 5) (.seq (.rg [⟨some 4, none, .mv (.k (.int .i64 1))⟩]) .ret) (.seq (.rg [⟨some 9, none, .mv (.t 1)⟩, ⟨some 10, none, .bin .lss .leaf (.t 9) (.k (.int .i64 1))⟩, ⟨some 11, none, .mv (.t 10)⟩, ⟨some 12, some (11, false), .mv (.t 1)⟩, ⟨some 13, some (11, false), .bin .gtr .leaf (.t 12) (.k (.int .i64 119988))⟩, ⟨some 14, none, .pick (.t 11) (.k (.bool true)) (.t 13)⟩, ⟨some 8, none, .mv (.t 14)⟩]) (.cond (.t 8) (.seq (.rg [⟨some 4, none, .mv (.k (.int .i64 2))⟩]) .ret) (.seq (.rg [⟨some 16, none, .mv (.t 1)⟩, ⟨some 17, none, .mv (.t 0)⟩, ⟨some 18, none, .nilck (.t 17)⟩, ⟨some 19, none, .fa 3 (.t 18)⟩, ⟨some 20, none, .ld 1 false (.t 19)⟩, ⟨some 21, none, .bin .leq .leaf (.t 16) (.t 20)⟩, ⟨some 15, none, .mv (.t 21)⟩]) (.cond (.t 15) (.seq (.rg [⟨some 4, none, .mv (.k (.int .i64 9))⟩]) .ret) .skip))))))) (.seq (.rg [⟨some 22, none, .mv (.t 0)⟩, ⟨some 23, none, .mv (.t 1)⟩, ⟨some 24, none, .nilck (.t 22)⟩, ⟨some 25, none, .fa 3 (.t 24)⟩, ⟨none, none, .st 1 (.t 25) (.t 23)⟩]) (.seq (.rg [⟨some 4, none, .mv (.k (.int .i64 0))⟩]) .ret)))⟩ := by kernel_rfl
theorem c7 : cFun E0.P 7 = some ⟨7, [(2, none)], .seq (.rg [⟨some 2, none, .mv (.k .nilp)⟩]) (.seq (.rg [⟨some 3, none, .mv (.t 0)⟩, ⟨some 4, none, .mkmap (KT.agg [KLf.i .i64, KLf.i .i64, KLf.i .u64])⟩, ⟨some 5, none, .build [.nilp, .nilsl, .nilmap, .int .i64 0] [(0, 1, .t 3), (2, 1, .t 4)]⟩, ⟨some 6, none, .box (.t 5) 69⟩, ⟨some 2, none, .mv (.t 6)⟩]) .ret)⟩ := by kernel_rfl

def entV (vid : Nat) : Nat → D
  | 0 => .nilsl
  | n + 1 => .vec vid (n + 1) 4
theorem none_nil : Pure 33 [.nilp] (.bool true) := by
  intro S tk
  refine ACalls.fgo c33 rfl fun hS => ?_
  repeat' first | with_reducible refine fzD_ite (fun q => ?_) (fun q => ?_) | ((try conv => whnf); first | refine bs_d (fun q => ?_) (fun q => ?_) | refine bs_n ?_ | refine bs_i (fun q => ?_) (fun q => ?_) | refine eqk rfl ?_ | refine ffin _ rfl rfl hS (Sub.refl _) rfl ⟨?_, rfl, rfl⟩)
  all_goals rfl
section
variable {X : List O} {tk : Tks} {bid mid nid vid n : Nat} {cp ent : D} {closed : Int} {f g : Slot → Option Int} {om on : O}
theorem none_b (hb : X[bid]? = some (.arr [cp, ent, .map mid, .int .i64 closed])) : ACalls E0 33 [.po bid 0] X tk (fun r S' tk' => r = .bool false ∧ S' = X ∧ tk' = tk) := by
  refine ACalls.fgo c33 rfl fun hS => ?_
  repeat' first | with_reducible refine fzD_ite (fun q => ?_) (fun q => ?_) | ((try conv => whnf); first | refine bs_d (fun q => ?_) (fun q => ?_) | refine bs_n ?_ | refine bs_i (fun q => ?_) (fun q => ?_) | refine pK_i (ldO_old hb rfl) ?_ | refine eqk rfl ?_ | refine ffin _ rfl rfl hS (Sub.refl _) rfl ⟨?_, rfl, rfl⟩)
  all_goals rfl
theorem sum_b (hb : X[bid]? = some (.arr [cp, ent, .map mid, .int .i64 closed])) (hm : X[mid]? = some om) (hf : Nw f om) (a k i : Int) :
    ACalls E0 49 [.po bid 0, .int .i64 a, .int .i64 k, .int .u64 i] X tk (fun r S' tk' => r = .int .i64 ((f (a, k, i)).getD 0) ∧ S' = X ∧ tk' = tk) := by
  obtain ⟨l, clk, rfl, hr⟩ := hf
  obtain ⟨p1, -⟩ := getI hr (a, k, i)
  refine ACalls.fgo c49 rfl fun hS => ?_
  repeat' first | with_reducible refine fzD_ite (fun q => ?_) (fun q => ?_) | ((try conv => whnf); first | refine bs_d (fun q => ?_) (fun q => ?_) | refine bs_n ?_ | refine bs_i (fun q => ?_) (fun q => ?_) | refine ckA rfl rfl (none_b (at_old hb)) ?_ | refine pK_i (ldO_old hb rfl) ?_ | refine pK_i ((mgD_old (ok := false) hm rfl).trans (congrArg some p1)) ?_ | refine eqk rfl ?_ | refine ffin _ rfl rfl hS (Sub.refl _) rfl ⟨?_, rfl, rfl⟩)
  all_goals rfl
theorem of_b (hb : X[bid]? = some (.arr [cp, ent, .map mid, .int .i64 closed])) (hm : X[mid]? = some om) (hf : Nw f om) (a i : Int) :
    ACalls E0 22 [.po bid 0, .int .i64 a, .int .u64 i] X tk (fun r S' tk' => r = .int .i64 ((f (a, 1, i)).getD 0) ∧ S' = X ∧ tk' = tk) := by
  refine ACalls.fgo c22 rfl fun hS => ?_
  repeat' first | with_reducible refine fzD_ite (fun q => ?_) (fun q => ?_) | ((try conv => whnf); first | refine bs_d (fun q => ?_) (fun q => ?_) | refine bs_n ?_ | refine bs_i (fun q => ?_) (fun q => ?_) | refine ckA rfl rfl (sum_b (at_old hb) (at_old hm) hf a 1 i) ?_ | refine eqk rfl ?_ | refine ffin _ rfl rfl hS (Sub.refl _) rfl ⟨?_, rfl, rfl⟩)
  all_goals rfl
theorem by_b (hb : X[bid]? = some (.arr [cp, ent, .map mid, .int .i64 closed])) (hm : X[mid]? = some om) (hf : Nw f om) (a i : Int) :
    ACalls E0 46 [.po bid 0, .int .i64 a, .int .u64 i] X tk (fun r S' tk' => r = .int .i64 ((f (a, 2, i)).getD 0) ∧ S' = X ∧ tk' = tk) := by
  refine ACalls.fgo c46 rfl fun hS => ?_
  repeat' first | with_reducible refine fzD_ite (fun q => ?_) (fun q => ?_) | ((try conv => whnf); first | refine bs_d (fun q => ?_) (fun q => ?_) | refine bs_n ?_ | refine bs_i (fun q => ?_) (fun q => ?_) | refine ckA rfl rfl (sum_b (at_old hb) (at_old hm) hf a 2 i) ?_ | refine eqk rfl ?_ | refine ffin _ rfl rfl hS (Sub.refl _) rfl ⟨?_, rfl, rfl⟩)
  all_goals rfl
def inV (f : Slot → Option Int) (a month : Int) : Int := if month < 1 then 0 else (f (a, 3, month)).getD 0
theorem in_b (hb : X[bid]? = some (.arr [cp, ent, .map mid, .int .i64 closed])) (hm : X[mid]? = some om) (hf : Nw f om) (a month : Int) (hmo : I64 month) :
    ACalls E0 23 [.po bid 0, .int .i64 a, .int .i64 month] X tk (fun r S' tk' => r = .int .i64 (inV f a month) ∧ S' = X ∧ tk' = tk) := by
  unfold inV
  by_cases h : month < 1
  · rw [if_pos h]
    refine ACalls.fgo c23 rfl fun hS => ?_
    repeat' first | with_reducible refine fzD_ite (fun q => ?_) (fun q => ?_) | ((try conv => whnf); first | refine bs_t (decide_eq_true h) ?_ | refine bs_d (fun q => ?_) (fun q => ?_) | refine bs_n ?_ | refine bs_i (fun q => ?_) (fun q => ?_) | refine eqk rfl ?_ | refine ffin _ rfl rfl hS (Sub.refl _) rfl ⟨?_, rfl, rfl⟩)
    all_goals rfl
  · rw [if_neg h]
    have hw : IntKind.wrap .u64 month = month := by unfold I64 at hmo; rw [wu64]; omega
    have hs := sum_b (tk := tk) hb hm hf a 3 month
    rw [← hw] at hs
    refine ACalls.fgo c23 rfl fun hS => ?_
    repeat' first | with_reducible refine fzD_ite (fun q => ?_) (fun q => ?_) | ((try conv => whnf); first | refine bs_f (decide_eq_false h) ?_ | refine bs_d (fun q => ?_) (fun q => ?_) | refine bs_n ?_ | refine bs_i (fun q => ?_) (fun q => ?_) | refine ckA rfl rfl (by rw [List.append_nil, List.append_nil]; exact hs) ?_ | refine eqk rfl ?_ | refine ffin _ rfl rfl hS (Sub.refl _) rfl ⟨?_, rfl, rfl⟩)
    all_goals (show D.int _ _ = D.int _ _; rw [hw])
theorem closed_b (hb : X[bid]? = some (.arr [cp, ent, .map mid, .int .i64 closed])) : ACalls E0 42 [.po bid 0] X tk (fun r S' tk' => r = .int .i64 closed ∧ S' = X ∧ tk' = tk) := by
  refine ACalls.fgo c42 rfl fun hS => ?_
  repeat' first | with_reducible refine fzD_ite (fun q => ?_) (fun q => ?_) | ((try conv => whnf); first | refine bs_d (fun q => ?_) (fun q => ?_) | refine bs_n ?_ | refine bs_i (fun q => ?_) (fun q => ?_) | refine ckA rfl rfl (none_b (at_old hb)) ?_ | refine pK_i (ldO_old hb rfl) ?_ | refine eqk rfl ?_ | refine ffin _ rfl rfl hS (Sub.refl _) rfl ⟨?_, rfl, rfl⟩)
  all_goals rfl
theorem len_b (hb : X[bid]? = some (.arr [cp, entV vid n, .map mid, .int .i64 closed])) : ACalls E0 43 [.po bid 0] X tk (fun r S' tk' => r = .int .i64 n ∧ S' = X ∧ tk' = tk) := by
  cases n with
  | zero =>
    refine ACalls.fgo c43 rfl fun hS => ?_
    repeat' first | with_reducible refine fzD_ite (fun q => ?_) (fun q => ?_) | ((try conv => whnf); first | refine bs_d (fun q => ?_) (fun q => ?_) | refine bs_n ?_ | refine bs_i (fun q => ?_) (fun q => ?_) | refine ckA rfl rfl (none_b (at_old hb)) ?_ | refine pK_i (ldO_old hb rfl) ?_ | refine eqk rfl ?_ | refine ffin _ rfl rfl hS (Sub.refl _) rfl ⟨?_, rfl, rfl⟩)
    all_goals rfl
  | succ n =>
    refine ACalls.fgo c43 rfl fun hS => ?_
    repeat' first | with_reducible refine fzD_ite (fun q => ?_) (fun q => ?_) | ((try conv => whnf); first | refine bs_d (fun q => ?_) (fun q => ?_) | refine bs_n ?_ | refine bs_i (fun q => ?_) (fun q => ?_) | refine ckA rfl rfl (none_b (at_old hb)) ?_ | refine pK_i (ldO_old hb rfl) ?_ | refine eqk rfl ?_ | refine ffin _ rfl rfl hS (Sub.refl _) rfl ⟨?_, rfl, rfl⟩)
    all_goals rfl
def closeN (closed month : Int) : Int := if month < 1 ∨ 119988 < month then 2 else if month ≤ closed then 9 else 0
theorem close_b (hb : X[bid]? = some (.arr [cp, ent, .map mid, .int .i64 closed])) (month : Int) :
    ACalls E0 12 [.po bid 0, .int .i64 month] X tk (fun r S' tk' => r = .int .i64 (closeN closed month) ∧ S' = (if closeN closed month = 0 then X.set bid (.arr [cp, ent, .map mid, .int .i64 month]) else X) ∧ tk' = tk) := by
  unfold closeN
  by_cases h1 : month < 1 ∨ 119988 < month
  · rw [if_pos h1, if_neg (by omega)]
    refine ACalls.fgo c12 rfl fun hS => ?_
    repeat' first | with_reducible refine fzD_ite (fun q => ?_) (fun q => ?_) | ((try conv => whnf); first | refine bs_d (fun q => ?_) (fun q => ?_) | refine bs_n ?_ | refine bs_i (fun q => ?_) (fun q => ?_) | refine ckA rfl rfl (none_b (at_old hb)) ?_ | refine pK_i (ldO_old hb rfl) ?_ | refine eqk rfl ?_ | refine ffin _ rfl rfl hS (Sub.refl _) rfl ⟨?_, rfl, rfl⟩)
    all_goals first | rfl | (exfalso; omega)
  rw [if_neg h1]
  by_cases h2 : month ≤ closed
  · rw [if_pos h2, if_neg (by omega)]
    refine ACalls.fgo c12 rfl fun hS => ?_
    repeat' first | with_reducible refine fzD_ite (fun q => ?_) (fun q => ?_) | ((try conv => whnf); first | refine bs_t (decide_eq_true h2) ?_ | refine bs_d (fun q => ?_) (fun q => ?_) | refine bs_n ?_ | refine bs_i (fun q => ?_) (fun q => ?_) | refine ckA rfl rfl (none_b (at_old hb)) ?_ | refine pK_i (ldO_old hb rfl) ?_ | refine eqk rfl ?_ | refine ffin _ rfl rfl hS (Sub.refl _) rfl ⟨?_, rfl, rfl⟩)
    all_goals first | rfl | (exfalso; omega)
  · rw [if_neg h2, if_pos rfl]
    refine ACalls.fgo c12 rfl fun hS => ?_
    repeat' first | with_reducible refine fzD_ite (fun q => ?_) (fun q => ?_) | ((try conv => whnf); first | refine bs_f (decide_eq_false h2) ?_ | refine bs_f (decide_eq_false (show ¬ month < 1 by omega)) ?_ | refine bs_f (decide_eq_false (show ¬ month > 119988 by omega)) ?_ | refine bs_d (fun q => ?_) (fun q => ?_) | refine bs_n ?_ | refine bs_i (fun q => ?_) (fun q => ?_) | refine ckA rfl rfl (none_b (at_old hb)) ?_ | refine pK_i (ldO_old hb rfl) ?_ | refine gk_stpo_old rfl rfl rfl hb rfl ⟨rfl, rfl, rfl, Nat.le_refl _⟩ ?_ | refine ffinJ ⟨?_, ?_, ?_⟩ | refine eqk rfl ?_ | refine ffin _ rfl rfl hS (Sub.refl _) rfl ⟨?_, rfl, rfl⟩)
    all_goals first | rfl | exact List.append_nil _ | (rw [List.append_nil]; rfl)
theorem new_b (cp : D) (hcp : cp = .nilp ∨ ∃ i, cp = .po i 0) : ACalls E0 7 [cp] X tk (fun r S' tk' => r = .po (X.length + 1) 0 ∧ S' = X ++ [.map kSl (MG.entKv sD []) 0, .arr [cp, .nilsl, .map X.length, .int .i64 0]] ∧ tk' = tk) := by
  rcases hcp with rfl | ⟨i, rfl⟩
  · refine ACalls.fgo c7 rfl fun hS => ?_
    repeat' first | with_reducible refine fzD_ite (fun q => ?_) (fun q => ?_) | ((try conv => whnf); first | refine bs_d (fun q => ?_) (fun q => ?_) | refine bs_n ?_ | refine bs_i (fun q => ?_) (fun q => ?_) | refine ffinJ ⟨?_, ?_, ?_⟩ | refine eqk rfl ?_ | refine ffin _ rfl rfl hS (Sub.refl _) rfl ⟨?_, rfl, rfl⟩)
    all_goals first | rfl | (simp only [List.append_nil])
  · refine ACalls.fgo c7 rfl fun hS => ?_
    repeat' first | with_reducible refine fzD_ite (fun q => ?_) (fun q => ?_) | ((try conv => whnf); first | refine bs_d (fun q => ?_) (fun q => ?_) | refine bs_n ?_ | refine bs_i (fun q => ?_) (fun q => ?_) | refine ffinJ ⟨?_, ?_, ?_⟩ | refine eqk rfl ?_ | refine ffin _ rfl rfl hS (Sub.refl _) rfl ⟨?_, rfl, rfl⟩)
    all_goals first | rfl | (simp only [List.append_nil])
theorem nw_empty : Nw (fun _ => none) (.map kSl (MG.entKv sD []) 0) := ⟨[], 0, rfl, MG.MapR.empty vI⟩
end
theorem c35 : cFun E0.P 35 = some ⟨16, [], .seq (.rg [⟨some 6, none, .mv (.t 1)⟩, ⟨some 7, none, .rngM (.t 6)⟩]) (.block 0 (.loop (.seq (.rg [⟨some 8, none, .nxt (.t 7)⟩, ⟨some 9, none, .ext 0 (.t 8)⟩]) (.seq (.cond (.t 9) .skip (.exit 0)) (.block 1 (.seq (.rg [⟨some 10, none, .ent (.t 7)⟩, ⟨some 11, none, .ext 0 (.t 10)⟩, ⟨some 12, none, .ext 1 (.t 10)⟩, ⟨some 4, none, .alloc [.int .i64 0, .int .i64 0, .int .u64 0] 82⟩, ⟨none, none, .st 3 (.t 4) (.t 11)⟩, ⟨some 5, none, .mv (.t 12)⟩]) (.rg [⟨some 13, none, .mv (.t 0)⟩, ⟨some 14, none, .ld 3 true (.t 4)⟩, ⟨some 15, none, .mv (.t 5)⟩, ⟨none, none, .mset (KT.agg [KLf.i .i64, KLf.i .i64, KLf.i .u64]) (.t 13) (.t 14) (.t 15)⟩])))))))⟩ := by kernel_rfl

def cpV (f g : Slot → Option Int) (l : List Slot) : Slot → Option Int := fun s => if s ∈ l then g s else f s
def orF (f g : Slot → Option Int) : Slot → Option Int := fun s => (g s).or (f s)
structure CpS where
  vs : List (MG.Ent Slot)
  o : O
section
variable {X : List O} {tk : Tks} {mid nid : Nat} {f g : Slot → Option Int} {om on : O}
set_option maxHeartbeats 2000000 in
theorem copy_m (hm : X[mid]? = some om) (hf : Nw f om) (hn : X[nid]? = some on) (hg : Nw g on) (hne : mid ≠ nid) :
    ACalls E0 35 [.map mid, .map nid] X tk (fun r S' tk' => ∃ o', (r = .tup [] ∧ Nw (orF f g) o') ∧ S' = X.set mid o' ∧ tk' = tk) := by
  obtain ⟨lg, cg, rfl, hgr⟩ := hg
  have hml : mid < X.length := (List.getElem?_eq_some_iff.1 hm).1
  have hself : X.set mid om = X := by
    refine List.ext_getElem? fun j => ?_
    by_cases hj : mid = j
    · subst hj; rw [List.getElem?_set_self hml, hm]
    · rw [List.getElem?_set_ne hj]
  have hst := hgr.st
  refine ACalls.fgo c35 rfl fun hS => ?_
  repeat' first | with_reducible refine fzD_ite (fun q => ?_) (fun q => ?_) | ((try conv => whnf); first | refine bs_d (fun q => ?_) (fun q => ?_) | refine bs_n ?_ | refine bs_i (fun q => ?_) (fun q => ?_) | refine gk_rng_old rfl rfl rfl hn ?_ | refine eqk rfl ?_ | refine ffin _ rfl rfl hS (Sub.refl _) rfl ⟨?_, rfl, rfl⟩)
  refine floopS (α := CpS) rfl (fun s => s.vs.Nodup ∧ (∀ e ∈ s.vs, e ∈ lg) ∧ Nw (cpV f g (s.vs.map (·.1))) s.o) (fun s => lg.length - s.vs.length) (fun s => [(7, .d (.po X.length 0)), (0, .d (.map mid)), (1, .d (.map nid))])
    (fun s => X.set mid s.o) (fun s => [.iter nid cg (s.vs.map (·.2.2)) cg]) (fun _ => []) (fun s hs => ⟨List.length_set .., hS.set (oSc_osc (sc_nw hs.2.2 _ _))⟩) ⟨[], om⟩ ⟨List.nodup_nil, by simp, by
      have : cpV f g (([] : List (MG.Ent Slot)).map (·.1)) = f := funext fun s => by simp [cpV]
      simp only; rw [this]; exact hf⟩ hself.symm (fstep_sub ⟨Sub.refl _, Sub.refl _, Sub.refl _, trivial⟩) ?_
  rintro ⟨vs, o⟩ ⟨h1, h2, h3⟩
  simp only at h1 h2 h3 ⊢
  obtain ⟨ml, mc, rfl, hmr⟩ := h3
  have hso : (X.set mid (.map kSl (MG.entKv sD ml) mc)).length = X.length := List.length_set ..
  have hn' : (X.set mid (.map kSl (MG.entKv sD ml) mc))[nid]? = some (.map kSl (MG.entKv sD lg) cg) := by rw [List.getElem?_set_ne hne]; exact hn
  have hm' : (X.set mid (.map kSl (MG.entKv sD ml) mc))[mid]? = some (.map kSl (MG.entKv sD ml) mc) := List.getElem?_set_self hml
  have hoscS : OSc X.length tk.length (X.set mid (.map kSl (MG.entKv sD ml) mc)) := hS.set (oSc_osc (sc_nw ⟨ml, mc, rfl, hmr⟩ _ _))
  repeat' first | with_reducible refine fzD_ite (fun q => ?_) (fun q => ?_) | ((try conv => whnf); first | refine bs_d (fun q => ?_) (fun q => ?_) | refine bs_n ?_ | refine bs_i (fun q => ?_) (fun q => ?_) | (refine gk_nxt (it := 0) hso rfl rfl rfl (at_old hn') (.inr (MG.entKv_first hst)) ?_ ?_; (rintro p hp hns; obtain ⟨e, he, rfl⟩ := List.mem_map.1 hp; obtain ⟨m1, m2, m3⟩ := hst.more h1 h2 he hns; skip); rotate_left; intro hall; rotate_left) | refine eqk rfl ?_ | refine ffin _ rfl rfl hS (Sub.refl _) rfl ⟨?_, rfl, rfl⟩)
  · obtain ⟨s, v, st⟩ := e
    have hgs := getE_in hgr.nd he
    rw [hgr.get] at hgs
    simp only at hgs
    obtain ⟨x, hx, rfl⟩ : ∃ x, g s = some x ∧ vI x = v := by
      cases hc : g s with
      | none => rw [hc] at hgs; cases hgs
      | some x => rw [hc] at hgs; exact ⟨x, rfl, Option.some.inj hgs⟩
    have hnext : Nw (cpV f g ((vs ++ [(s, vI x, st)]).map (·.1))) (.map kSl (mset (MG.entKv sD ml) mc (sD s) (vI x)) (mclk (MG.entKv sD ml) mc (sD s))) := by
      refine ⟨_, _, by rw [MG.mset_entKv kEq, MG.mclk_entKv kEq], ?_⟩
      have h := hmr.set s x
      have he : (fun j => if j = s then some x else cpV f g (vs.map (·.1)) j) = cpV f g ((vs ++ [(s, vI x, st)]).map (·.1)) := by
        funext j
        have hm : j ∈ ((vs ++ [(s, vI x, st)]).map (·.1)) ↔ j ∈ vs.map (·.1) ∨ j = s := by
          rw [List.map_append, List.mem_append, List.map_singleton, List.mem_singleton]
        unfold cpV
        by_cases h1 : j = s
        · rw [if_pos h1, if_pos (hm.2 (.inr h1)), h1, hx]
        · rw [if_neg h1]
          by_cases h2 : j ∈ vs.map (·.1)
          · rw [if_pos h2, if_pos (hm.2 (.inl h2))]
          · rw [if_neg h2, if_neg (fun h => (hm.1 h).elim h2 h1)]
      rw [he] at h; exact h
    repeat' first | with_reducible refine fzD_ite (fun q => ?_) (fun q => ?_) | ((try conv => whnf); first | refine bs_d (fun q => ?_) (fun q => ?_) | refine bs_n ?_ | refine bs_i (fun q => ?_) (fun q => ?_) | refine pK_i (entD_own (k := 0) hso rfl (at_old hn') hp (hst.kveq he)) ?_ | refine gk_mset_old hso rfl rfl hm' rfl ?_ | refine eqk rfl ?_ | refine ffin _ rfl rfl hS (Sub.refl _) rfl ⟨?_, rfl, rfl⟩)
    conv => whnf
    refine fnextS (α := CpS) ⟨vs ++ [(s, vI x, st)], .map kSl (mset (MG.entKv sD ml) mc (sD s) (vI x)) (mclk (MG.entKv sD ml) mc (sD s))⟩ ⟨m1, m2, hnext⟩ (by simp only [List.length_append, List.length_singleton]; omega) (by simp only [List.set_set]; rfl) ?_
    simp only [List.map_append, List.map_cons, List.map_nil]
    exact fstep_drop (J' := [_]) (Jx := [_]) (TK' := []) (TKx := []) rfl rfl ⟨Sub.refl _, Sub.refl _, Sub.refl _, trivial⟩ (by
      have hnl : nid < X.length := (List.getElem?_eq_some_iff.1 hn).1
      simp [frD, FD.to, frSc, D.sc]; omega) (by
      have hnl : nid < X.length := (List.getElem?_eq_some_iff.1 hn).1
      simp [oScL, oSc]; omega)
  · have hp := hst.full h1 h2 hall
    have he : cpV f g (vs.map (·.1)) = orF f g := by
      funext s
      have hm : s ∈ vs.map (·.1) ↔ (g s).isSome = true := by rw [← hgr.mem, (hp.map (·.1)).mem_iff]
      unfold cpV orF
      cases hc : g s with
      | none => rw [if_neg (fun h => by have := hm.1 h; rw [hc] at this; cases this)]; rfl
      | some x => rw [if_pos (hm.2 (by rw [hc]; rfl))]; rfl
    rw [he] at hmr
    repeat' first | with_reducible refine fzD_ite (fun q => ?_) (fun q => ?_) | ((try conv => whnf); first | refine bs_d (fun q => ?_) (fun q => ?_) | refine bs_n ?_ | refine bs_i (fun q => ?_) (fun q => ?_) | refine ffin _ hso rfl hoscS (Sub.refl _) rfl ⟨_, ⟨?_, ⟨ml, mc, rfl, hmr⟩⟩, rfl, rfl⟩ | refine eqk rfl ?_ | refine ffin _ rfl rfl hS (Sub.refl _) rfl ⟨?_, rfl, rfl⟩)
    all_goals rfl
end
theorem c10 : cFun E0.P 10 = some ⟨44, [(4, none), (5, none)], .seq (.rg [⟨some 3, none, .box (.t 1) 35⟩, ⟨some 4, none, .mv (.k (.int .u64 0))⟩, ⟨some 5, none, .mv (.k (.int .i64 0))⟩]) (.seq (.seq (.rg [⟨some 8, none, .mv (.t 0)⟩, ⟨some 9, none, .call 33 [.t 8]⟩]) (.cond (.t 9) (.seq (.rg [⟨some 4, none, .mv (.k (.int .u64 0))⟩, ⟨some 5, none, .mv (.k (.int .i64 1))⟩]) .ret) .skip)) (.seq (.rg [⟨some 10, none, .mkmap (KT.agg [KLf.i .i64, KLf.i .i64, KLf.i .u64])⟩, ⟨some 6, none, .mv (.t 10)⟩]) (.seq (.seq (.rg [⟨some 11, none, .mv (.t 0)⟩, ⟨some 12, none, .mv (.t 6)⟩, ⟨some 13, none, .ld 4 true (.t 3)⟩, ⟨some 14, none, .call 34 [.t 11, .t 12, .t 13]⟩, ⟨some 7, none, .mv (.t 14)⟩]) (.seq (.rg [⟨some 15, none, .mv (.t 7)⟩, ⟨some 16, none, .bin .neq .leaf (.t 15) (.k (.int .i64 0))⟩]) (.cond (.t 16) (.seq (.rg [⟨some 17, none, .mv (.t 7)⟩, ⟨some 4, none, .mv (.k (.int .u64 0))⟩, ⟨some 5, none, .mv (.t 17)⟩]) .ret) .skip))) (.seq (.rg [⟨some 18, none, .mv (.t 0)⟩, ⟨some 19, none, .nilck (.t 18)⟩, ⟨some 20, none, .fa 2 (.t 19)⟩, ⟨some 21, none, .ld 1 false (.t 20)⟩, ⟨some 22, none, .mv (.t 6)⟩, ⟨some 23, none, .call 35 [.t 21, .t 22]⟩]) (.seq (.rg [⟨some 24, none, .fa 3 (.t 3)⟩, ⟨some 25, none, .ld 1 false (.t 24)⟩, ⟨some 26, none, .call 36 [.t 25]⟩, ⟨some 27, none, .fa 3 (.t 3)⟩, ⟨none, none, .st 1 (.t 27) (.t 26)⟩]) (.seq (.rd [(⟨some 28, none, .mv (.t 0)⟩, none), (⟨some 29, none, .mv (.t 0)⟩, none), (⟨some 30, none, .nilck (.t 29)⟩, none), (⟨some 31, none, .fa 1 (.t 30)⟩, none), (⟨some 32, none, .ld 1 false (.t 31)⟩, none), (⟨some 33, none, .ld 4 true (.t 3)⟩, none), (⟨some 34, none, .buildS 1 4 [.int .i64 0, .int .u8 0, .int .u64 0, .nilsl] [(0, .t 33)] 35⟩, none), (⟨some 35, none, .app 29 35 4 48 [.int .i64 0, .int .u8 0, .int .u64 0, .nilsl] (.t 32) (.t 34)⟩, some []), (⟨some 36, none, .nilck (.t 28)⟩, none), (⟨some 37, none, .fa 1 (.t 36)⟩, none), (⟨none, none, .st 1 (.t 37) (.t 35)⟩, some [])]) (.seq (.rg [⟨some 38, none, .mv (.t 0)⟩, ⟨some 39, none, .nilck (.t 38)⟩, ⟨some 40, none, .fa 1 (.t 39)⟩, ⟨some 41, none, .ld 1 false (.t 40)⟩, ⟨some 42, none, .len 1 (.t 41)⟩, ⟨some 43, none, .conv .u64 (.t 42)⟩, ⟨some 4, none, .mv (.t 43)⟩, ⟨some 5, none, .mv (.k (.int .i64 0))⟩]) .ret)))))))⟩ := by kernel_rfl

theorem clone_sl (L : List Ln) (h0 : L ≠ []) (hl : L.length < 1000000) : Pure 36 [.sl (lns L)] (.sl (lns L)) := by
  intro S tk
  have hlen := lns_len L
  have h4 : ∀ s ∈ lns L, s.length = 4 := fun s hs => by obtain ⟨x, _, rfl⟩ := List.mem_map.1 hs; rfl
  refine ACalls.fgo c36 rfl fun hS => ?_
  cases L with
  | nil => exact absurd rfl h0
  | cons a r =>
    repeat' first | with_reducible refine fzD_ite (fun q => ?_) (fun q => ?_) | ((try conv => whnf); first | refine bs_d (fun q => ?_) (fun q => ?_) | refine bs_n ?_ | refine bs_i (fun q => ?_) (fun q => ?_) | refine gk_app0v (src := lns (a :: r)) rfl rfl (.inr rfl) rfl h4 ⟨by rw [hlen]; simp [maxLen] at hl ⊢; omega, by rw [hlen]; omega⟩ ?_ | exact ffinV (k := 0) (d' := .top) rfl rfl hS rfl (scLL_lns _ _ _) ⟨rfl, rfl, rfl⟩ | refine eqk rfl ?_ | refine ffin _ rfl rfl hS (Sub.refl _) rfl ⟨?_, rfl, rfl⟩)
section
variable {ql : AcL} {oc om on : O} {cid kid bid mid nid : Nat} {ent : D} {closed : Int} {f g : Slot → Option Int} {S : List O} {tk : Tks}
theorem adds_err (e : Ent) (hR : e.R) (hb : S[bid]? = some (.arr [.po cid 0, ent, .map mid, .int .i64 closed])) (hc : S[cid]? = some (.arr [.map kid])) (hk : S[kid]? = some oc) (hch : Ch (look ql) oc) (hok : OkQ ql) (hql : ql.length < 1000000) (hbad : onN ql e ≠ 0 ∨ ofI e.day ≤ closed) :
    ACalls E0 34 [.po bid 0, .map nid, e.d] S tk (fun r S' tk' => r = .int .i64 (if onN ql e ≠ 0 then onN ql e else 210) ∧ S' = S ∧ tk' = tk) := by
  by_cases h0 : onN ql e ≠ 0
  · rw [if_pos h0]
    obtain ⟨n, hn⟩ : ∃ n, n = onN ql e := ⟨_, rfl⟩
    rw [← hn] at h0 ⊢
    refine ACalls.fgo c34 rfl fun hS => ?_
    repeat' first | with_reducible refine fzD_ite (fun q => ?_) (fun q => ?_) | ((try conv => whnf); first | refine bs_f (decide_eq_false h0) ?_ | refine bs_d (fun q => ?_) (fun q => ?_) | refine bs_n ?_ | refine bs_i (fun q => ?_) (fun q => ?_) | refine pK_i (ldO_old hb rfl) ?_ | refine ckA rfl rfl (on_cN hn.symm hch (at_old hc) (at_old hk) hok hql hR) ?_ | refine eqk rfl ?_ | refine ffin _ rfl rfl hS (Sub.refl _) rfl ⟨?_, rfl, rfl⟩)
    all_goals rfl
  · rw [if_neg h0]
    have h0' : onN ql e = 0 := Classical.byContradiction h0
    have hcl : ofI e.day ≤ closed := hbad.resolve_left h0
    have hchk : e.chk = 0 := Classical.byContradiction fun h => by rw [onN, if_neg h] at h0'; exact h h0'
    obtain ⟨c1, c2, c3⟩ := Ent.chk_0 hchk
    unfold Ent.hd at c1
    have ho := of_day e.day
    rw [if_pos ⟨c1.1, c1.2.1⟩] at ho
    refine ACalls.fgo c34 rfl fun hS => ?_
    repeat' first | with_reducible refine fzD_ite (fun q => ?_) (fun q => ?_) | ((try conv => whnf); first | refine bs_t (decide_eq_true hcl) ?_ | refine bs_d (fun q => ?_) (fun q => ?_) | refine bs_n ?_ | refine bs_i (fun q => ?_) (fun q => ?_) | refine pK_i (ldO_old hb rfl) ?_ | refine ckA rfl rfl (on_cN h0' hch (at_old hc) (at_old hk) hok hql hR) ?_ | refine ckz (ho) ?_ | refine cq (ho) ?_ | refine eqk rfl ?_ | refine ffin _ rfl rfl hS (Sub.refl _) rfl ⟨?_, rfl, rfl⟩)
    all_goals rfl
end
theorem ckOE {E : Env} {n0 m0 : Nat} {S J : List O} {T TK : Tks} {f : FuncId} {ds ds' : List D} {K : FD → List O → List O → Tks → Tks → Prop} {G : D → O → Prop} {id : Nat} (hn : S.length = n0) (hm : T.length = m0) (hlt : id < S.length)
    (h : ACalls E f ds' (S ++ J) (T ++ TK) (fun r S' tk' => ∃ o', G r o' ∧ S' = (S ++ J).set id o' ∧ tk' = T ++ TK)) (hs : SubL ds ds')
    (hk : ∀ r o', G r o' → fzD r fun r => K (.d r) (S.set id o') J T TK) : CK E n0 m0 f ds S J T TK K := by
  refine ckG (h.sub hs) ?_
  rintro r' S' tk' ⟨o', hG, rfl, rfl⟩
  exact ⟨S.set id o', J, T, TK, set_old hlt, rfl, by rw [List.length_set, hn], hm, hk _ _ hG⟩
def entR (E : List Ent) : List (List D) := E.map entC
structure BkR (X : List O) (lo bid cid kid mid : Nat) (ql : AcL) (f : Slot → Option Int) (E : List Ent) (closed : Int) : Prop where
  b : ∃ vid ety, X[bid]? = some (.arr [.po cid 0, entV vid E.length, .map mid, .int .i64 closed]) ∧ (E ≠ [] → X[vid]? = some (.vec (entR E) ety 4) ∧ ety = 35 ∧ lo ≤ vid)
  c : X[cid]? = some (.arr [.map kid])
  k : ∃ oc, X[kid]? = some oc ∧ Ch (look ql) oc
  m : ∃ om, X[mid]? = some om ∧ Nw f om
  ok : OkQ ql
  lq : ql.length < 1000000
  lo : lo ≤ bid ∧ lo ≤ cid ∧ lo ≤ kid ∧ lo ≤ mid
  I : ∀ s, I64 ((f s).getD 0)
structure Keeps (lo bid mid : Nat) (X X' : List O) : Prop where
  len : X.length ≤ X'.length
  lo : ∀ id, id < lo → X'[id]? = X[id]?
  el : ∀ id o, X[id]? = some o → id ≠ bid → id ≠ mid → (∀ es e sz, o ≠ .vec es e sz) → X'[id]? = some o
def noneF : Slot → Option Int := fun _ => none
open Classical in
noncomputable def postN (ql : AcL) (f : Slot → Option Int) (closed : Int) (e : Ent) : Int := if onN ql e ≠ 0 ∨ ofI e.day ≤ closed then (if onN ql e ≠ 0 then onN ql e else 210) else if ∀ s ∈ tts (adL e), okS (adL e) f noneF s then 0 else 211
def postF (f : Slot → Option Int) (e : Ent) : Slot → Option Int := orF f (gV (adL e) f noneF (tts (adL e)))
theorem nw_ne {f : Slot → Option Int} {o : O} (h : Nw f o) : (∀ cs, o ≠ .arr cs) ∧ (∀ es e sz, o ≠ .vec es e sz) := by
  obtain ⟨l, c, rfl, -⟩ := h
  exact ⟨fun _ h => (by cases h), fun _ _ _ h => (by cases h)⟩
theorem ch_ne {f : Int → Option Go.KL.YtkojphmejddhiaaGreatDoor.Ac} {o : O} (h : Ch f o) : (∀ cs, o ≠ .arr cs) ∧ (∀ es e sz, o ≠ .vec es e sz) ∧ (∀ g : Slot → Option Int, ¬ Nw g o) := by
  obtain ⟨l, c, rfl, -⟩ := h
  refine ⟨fun _ h => (by cases h), fun _ _ _ h => (by cases h), fun g hg => ?_⟩
  obtain ⟨l2, c2, h, -⟩ := hg
  injection h with h1
  cases h1
section
variable {X : List O} {tk : Tks} {lo bid cid kid mid : Nat} {ql : AcL} {f : Slot → Option Int} {E : List Ent} {closed : Int}
theorem post_err (h : BkR X lo bid cid kid mid ql f E closed) (e : Ent) (hR : e.R) (hbad : onN ql e ≠ 0 ∨ ofI e.day ≤ closed) :
    ACalls E0 10 [.po bid 0, e.d] X tk (fun r S' tk' => r = .tup [.int .u64 0, .int .i64 (if onN ql e ≠ 0 then onN ql e else 210)] ∧ S' = X ∧ tk' = tk) := by
  obtain ⟨vid, ety, hb, -⟩ := h.b
  obtain ⟨oc, hk, hch⟩ := h.k
  have hne : (if onN ql e ≠ 0 then onN ql e else 210) ≠ 0 := by
    split
    · assumption
    · decide
  have ha := fun (S : List O) (tk : Tks) (hS : ∀ id o, X[id]? = some o → S[id]? = some o) (nid : Nat) => adds_err (tk := tk) (nid := nid) e hR (hS _ _ hb) (hS _ _ h.c) (hS _ _ hk) hch h.ok h.lq hbad
  obtain ⟨n, hn⟩ : ∃ n, n = (if onN ql e ≠ 0 then onN ql e else 210) := ⟨_, rfl⟩
  simp only [← hn] at hne ha ⊢
  refine ACalls.fgo c10 rfl fun hS => ?_
  repeat' first | with_reducible refine fzD_ite (fun q => ?_) (fun q => ?_) | ((try conv => whnf); first | refine bs_f (decide_eq_false hne) ?_ | refine bs_d (fun q => ?_) (fun q => ?_) | refine bs_n ?_ | refine bs_i (fun q => ?_) (fun q => ?_) | refine ckA rfl rfl (none_b (at_old hb)) ?_ | refine ckA rfl rfl (ha _ _ (fun id o h => at_old h) _) ?_ | refine eqk rfl ?_ | refine ffin _ rfl rfl hS (Sub.refl _) rfl ⟨?_, rfl, rfl⟩)
  all_goals rfl
theorem post_over (h : BkR X lo bid cid kid mid ql f E closed) (e : Ent) (hR : e.R) (h1 : onN ql e = 0) (h2 : ¬ ofI e.day ≤ closed) (h3 : ¬ ∀ s ∈ tts (adL e), okS (adL e) f noneF s) :
    ACalls E0 10 [.po bid 0, e.d] X tk (fun r S' tk' => r = .tup [.int .u64 0, .int .i64 211] ∧ S' = X ∧ tk' = tk) := by
  obtain ⟨vid, ety, hb, -⟩ := h.b
  obtain ⟨oc, hk, hch⟩ := h.k
  obtain ⟨om, hm, hf⟩ := h.m
  have hml := (List.getElem?_eq_some_iff.1 hm).1
  have hchk : e.chk = 0 := Classical.byContradiction fun h => by rw [onN, if_neg h] at h1; exact h h1
  have ha : ∀ (J : List O) (tk : Tks), J[1]? = some (.map kSl (MG.entKv sD []) 0) → ACalls E0 34 [.po bid 0, .map (X.length + 1), e.d] (X ++ J) tk (fun r S' tk' => ∃ o', r = .int .i64 211 ∧ S' = (X ++ J).set (X.length + 1) o' ∧ tk' = tk) := by
    intro J tk hJ
    refine (adds e hR hchk h1 h2 (at_old hb) (at_old h.c) (at_old hk) hch h.ok h.lq (at_old hm) hf (at_own rfl hJ) nw_empty (by omega) h.I (fun s => by unfold I64; simp)).mono ?_
    rintro r S' tk' ⟨o', h5, rfl, rfl⟩
    rcases h5 with ⟨h6, -⟩ | ⟨-, rfl, -⟩
    · exact absurd h6 h3
    · exact ⟨o', rfl, rfl, rfl⟩
  refine ACalls.fgo c10 rfl fun hS => ?_
  repeat' first | with_reducible refine fzD_ite (fun q => ?_) (fun q => ?_) | ((try conv => whnf); first | refine bs_d (fun q => ?_) (fun q => ?_) | refine bs_n ?_ | refine bs_i (fun q => ?_) (fun q => ?_) | refine ckA rfl rfl (none_b (at_old hb)) ?_ | (refine ckJE (k := 1) (G := fun r o' => r = .int .i64 211) rfl rfl (ha _ _ rfl) (SubL.refl _) ?_; rintro r o' rfl) | refine eqk rfl ?_ | refine ffin _ rfl rfl hS (Sub.refl _) rfl ⟨?_, rfl, rfl⟩)
  all_goals rfl
theorem hI1 (f : Slot → Option Int) (e : Ent) (h : ∀ s, I64 ((f s).getD 0)) (h3 : ∀ s ∈ tts (adL e), okS (adL e) f noneF s) : ∀ s, I64 ((postF f e s).getD 0) := by
  intro s
  unfold postF orF gV noneF
  by_cases hs : s ∈ tts (adL e)
  · rw [if_pos hs]
    have := h3 s hs
    unfold okS at this
    unfold I64
    simp only [Option.some_or, Option.getD_some]
    unfold noneF at this
    omega
  · rw [if_neg hs]; simpa using h s
theorem bk_next (h : BkR X lo bid cid kid mid ql f E closed) {e : Ent} {om1 : O} (hml : mid < X.length) (hbl : bid < X.length) (hbm : mid ≠ bid) (hm1 : Nw (postF f e) om1) (hI : ∀ s, I64 ((postF f e s).getD 0)) {Y J : List O} {vid : Nat} (hY : Y.length = X.length)
    (hel : ∀ id, id ≠ bid → id ≠ mid → (∀ es e sz, X[id]? ≠ some (.vec es e sz)) → Y[id]? = X[id]?) (hlo : ∀ id, id < lo → Y[id]? = X[id]?) (hb : Y[bid]? = some (.arr [.po cid 0, entV vid (E ++ [e]).length, .map mid, .int .i64 closed])) (hm : Y[mid]? = some om1) (hv : (Y ++ J)[vid]? = some (.vec (entR (E ++ [e])) 35 4)) (hvl : lo ≤ vid) :
    BkR (Y ++ J) lo bid cid kid mid ql (postF f e) (E ++ [e]) closed ∧ Keeps lo bid mid X (Y ++ J) := by
  obtain ⟨oc, hk, hch⟩ := h.k
  obtain ⟨om, hmo, hf⟩ := h.m
  obtain ⟨vid0, ety0, hb0, -⟩ := h.b
  have hcl := (List.getElem?_eq_some_iff.1 h.c).1
  have hkl := (List.getElem?_eq_some_iff.1 hk).1
  have hcm : mid ≠ cid := fun hh => by rw [hh, h.c] at hmo; exact (nw_ne hf).1 _ (Option.some.inj hmo).symm
  have hkm : mid ≠ kid := fun hh => by rw [hh, hk] at hmo; exact (ch_ne hch).2.2 f (Option.some.inj hmo ▸ hf)
  have hbc : bid ≠ cid := fun hh => by rw [hh, h.c] at hb0; have := Option.some.inj hb0; simp at this
  have hbk : bid ≠ kid := fun hh => by rw [← hh, hb0] at hk; exact (ch_ne hch).1 _ (Option.some.inj hk).symm
  have hl : ∀ id, id < X.length → (Y ++ J)[id]? = Y[id]? := fun id hi => List.getElem?_append_left (by omega)
  refine ⟨⟨⟨vid, _, by rw [hl _ hbl]; exact hb, fun _ => ⟨hv, rfl, hvl⟩⟩, ?_, ⟨oc, ?_, hch⟩, ⟨om1, by rw [hl _ hml]; exact hm, hm1⟩, h.ok, h.lq, h.lo, hI⟩, ⟨by rw [List.length_append]; omega, fun id hi => ?_, fun id o ho h1 h2 h3 => ?_⟩⟩
  · rw [hl _ hcl, hel cid (Ne.symm hbc) (Ne.symm hcm) (fun es e sz hh => by rw [h.c] at hh; cases hh)]; exact h.c
  · rw [hl _ hkl, hel kid (Ne.symm hbk) (Ne.symm hkm) (fun es e sz hh => by rw [hk] at hh; exact (ch_ne hch).2.1 es e sz (Option.some.inj hh))]; exact hk
  · rw [hl _ (by have := h.lo.1; omega)]; exact hlo id hi
  · rw [hl _ (List.getElem?_eq_some_iff.1 ho).1, hel id h1 h2 (fun es e sz hh => by rw [ho] at hh; exact h3 es e sz (Option.some.inj hh))]; exact ho
set_option maxHeartbeats 2000000 in
theorem post_ok (h : BkR X lo bid cid kid mid ql f E closed) (e : Ent) (hR : e.R) (h1 : onN ql e = 0) (h2 : ¬ ofI e.day ≤ closed) (h3 : ∀ s ∈ tts (adL e), okS (adL e) f noneF s) (hE : E.length < 1000000) :
    ACalls E0 10 [.po bid 0, e.d] X tk (fun r X' tk' => r = .tup [.int .u64 ((E.length + 1 : Nat) : Int), .int .i64 0] ∧ (BkR X' lo bid cid kid mid ql (postF f e) (E ++ [e]) closed ∧ Keeps lo bid mid X X') ∧ tk' = tk) := by
  obtain ⟨vid, ety, hb, hv⟩ := h.b
  obtain ⟨oc, hk, hch⟩ := h.k
  obtain ⟨om, hm, hf⟩ := h.m
  have hml := (List.getElem?_eq_some_iff.1 hm).1
  have hbl := (List.getElem?_eq_some_iff.1 hb).1
  have hcl := (List.getElem?_eq_some_iff.1 h.c).1
  have hkl := (List.getElem?_eq_some_iff.1 hk).1
  have hbm : mid ≠ bid := fun hh => by rw [hh, hb] at hm; exact (nw_ne hf).1 _ (Option.some.inj hm).symm
  have hcm : mid ≠ cid := fun hh => by rw [hh, h.c] at hm; exact (nw_ne hf).1 _ (Option.some.inj hm).symm
  have hkm : mid ≠ kid := fun hh => by rw [hh, hk] at hm; exact (ch_ne hch).2.2 f (Option.some.inj hm ▸ hf)
  have hbc : bid ≠ cid := fun hh => by rw [hh, h.c] at hb; have := Option.some.inj hb; simp at this
  have hbk : bid ≠ kid := fun hh => by rw [← hh, hb] at hk; exact (ch_ne hch).1 _ (Option.some.inj hk).symm
  have hchk : e.chk = 0 := Classical.byContradiction fun h => by rw [onN, if_neg h] at h1; exact h h1
  obtain ⟨c1, c2, c3⟩ := Ent.chk_0 hchk
  unfold Ent.hd at c1
  have hne : e.L ≠ [] := fun hh => by rw [hh] at c1; simp at c1
  have hcn := clone_sl e.L hne (by omega)
  have ha : ∀ (J : List O) (tk : Tks), J[1]? = some (.map kSl (MG.entKv sD []) 0) → ACalls E0 34 [.po bid 0, .map (X.length + 1), e.d] (X ++ J) tk (fun r S' tk' => ∃ o', (r = .int .i64 0 ∧ Nw (gV (adL e) f noneF (tts (adL e))) o') ∧ S' = (X ++ J).set (X.length + 1) o' ∧ tk' = tk) := by
    intro J tk hJ
    refine (adds e hR hchk h1 h2 (at_old hb) (at_old h.c) (at_old hk) hch h.ok h.lq (at_old hm) hf (at_own rfl hJ) nw_empty (by omega) h.I (fun s => by unfold I64; simp)).mono ?_
    rintro r S' tk' ⟨o', h5, rfl, rfl⟩
    rcases h5 with ⟨-, rfl, h7⟩ | ⟨⟨s, hs, hno⟩, -⟩
    · exact ⟨o', ⟨rfl, h7⟩, rfl, rfl⟩
    · exact absurd (h3 s hs) hno
  have hcp : ∀ (S : List O) (tk : Tks) (o' : O), (X ++ S)[X.length + 1]? = some o' → Nw (gV (adL e) f noneF (tts (adL e))) o' → ACalls E0 35 [.map mid, .map (X.length + 1)] (X ++ S) tk (fun r S' tk' => ∃ om', (r = .tup [] ∧ Nw (postF f e) om') ∧ S' = (X ++ S).set mid om' ∧ tk' = tk) := fun S tk o' ho' hno => copy_m (at_old hm) hf ho' hno (by omega)
  have hX1 : ∀ o : O, (X.set mid o).length = X.length := fun o => List.length_set ..
  have hb1 : ∀ o : O, (X.set mid o)[bid]? = some (.arr [.po cid 0, entV vid E.length, .map mid, .int .i64 closed]) := fun o => by rw [List.getElem?_set_ne hbm]; exact hb
  cases E with
  | nil =>
    refine ACalls.fgo c10 rfl fun hS => ?_
    repeat' first | with_reducible refine fzD_ite (fun q => ?_) (fun q => ?_) | ((try conv => whnf); first | refine bs_d (fun q => ?_) (fun q => ?_) | refine bs_n ?_ | refine bs_i (fun q => ?_) (fun q => ?_) | refine ckA rfl rfl (none_b (at_old hb)) ?_ | (refine ckJE (k := 1) (G := fun r o' => r = .int .i64 0 ∧ Nw (gV (adL e) f noneF (tts (adL e))) o') rfl rfl (ha _ _ rfl) (SubL.refl _) ?_; rintro r o1 ⟨rfl, hn1⟩) | refine pK_i (ldO_old hb rfl) ?_ | (refine ckOE (id := mid) (G := fun r om' => r = .tup [] ∧ Nw (postF f e) om') rfl rfl hml (hcp _ _ o1 (at_own (k := 1) rfl rfl) hn1) (SubL.refl _) ?_; rintro r om1 ⟨rfl, hm1⟩) | refine ckz (hcn) ?_ | refine cq (hcn) ?_ | refine pK_i (ldO_old (hb1 om1) rfl) ?_ | refine gk_app0v (src := [entC e]) (hX1 om1) rfl (.inl rfl) rfl (by simp [entC]) (by simp [maxLen]) ?_ | refine gk_stpo_old (hX1 om1) rfl rfl (hb1 om1) rfl ⟨rfl, rfl, rfl, by simp⟩ ?_ | refine pK_i (ldO_old (List.getElem?_set_self (by rw [hX1]; exact hbl)) rfl) ?_ | refine ffinJ ⟨?_, ?_, ?_⟩ | refine eqk rfl ?_ | refine ffin _ rfl rfl hS (Sub.refl _) rfl ⟨?_, rfl, rfl⟩)
    · show D.tup [.int .u64 (IntKind.wrap .u64 1), .int .i64 0] = _
      rfl
    · exact bk_next h hml hbl hbm hm1 (hI1 f e h.I h3) (Y := (X.set mid om1).set bid (.arr [.po cid 0, .vec (X.length + 2) 1 4, .map mid, .int .i64 closed])) (vid := X.length + 2) (J := [.arr (entC e), o1, .vec [entC e] 35 4]) (by simp) (fun id h1 h2 h4 => by rw [List.getElem?_set_ne (Ne.symm h1), List.getElem?_set_ne (Ne.symm h2)]) (fun id hi => by rw [List.getElem?_set_ne (by have := h.lo; omega), List.getElem?_set_ne (by have := h.lo; omega)]) (List.getElem?_set_self (by rw [hX1]; exact hbl)) (by rw [List.getElem?_set_ne (Ne.symm hbm), List.getElem?_set_self hml]) (by simp [List.getElem?_append_right]; rfl) (by have := h.lo.1; omega)
    · exact List.append_nil _
  | cons a E =>
    obtain ⟨hv1, rfl, hv3⟩ := hv (by simp)
    have hvl := (List.getElem?_eq_some_iff.1 hv1).1
    have hvm : mid ≠ vid := fun hh => by rw [hh, hv1] at hm; exact (nw_ne hf).2 _ _ _ (Option.some.inj hm).symm
    have hvb : bid ≠ vid := fun hh => by rw [hh, hv1] at hb; cases hb
    have hv1' : ∀ o : O, (X.set mid o)[vid]? = some (.vec (entR (a :: E)) 35 4) := fun o => by rw [List.getElem?_set_ne hvm]; exact hv1
    have hX2 : ∀ o o2 : O, ((X.set mid o).set vid o2).length = X.length := fun o o2 => by rw [List.length_set, List.length_set]
    have hb2 : ∀ o o2 : O, ((X.set mid o).set vid o2)[bid]? = some (.arr [.po cid 0, entV vid (a :: E).length, .map mid, .int .i64 closed]) := fun o o2 => by rw [List.getElem?_set_ne (Ne.symm hvb)]; exact hb1 o
    have hel : (entR (a :: E)).length = E.length + 1 := by simp [entR]
    refine ACalls.fgo c10 rfl fun hS => ?_
    repeat' first | with_reducible refine fzD_ite (fun q => ?_) (fun q => ?_) | ((try conv => whnf); first | refine bs_d (fun q => ?_) (fun q => ?_) | refine bs_n ?_ | refine bs_i (fun q => ?_) (fun q => ?_) | refine ckA rfl rfl (none_b (at_old hb)) ?_ | (refine ckJE (k := 1) (G := fun r o' => r = .int .i64 0 ∧ Nw (gV (adL e) f noneF (tts (adL e))) o') rfl rfl (ha _ _ rfl) (SubL.refl _) ?_; rintro r o1 ⟨rfl, hn1⟩) | refine pK_i (ldO_old hb rfl) ?_ | (refine ckOE (id := mid) (G := fun r om' => r = .tup [] ∧ Nw (postF f e) om') rfl rfl hml (hcp _ _ o1 (at_own (k := 1) rfl rfl) hn1) (SubL.refl _) ?_; rintro r om1 ⟨rfl, hm1⟩) | refine ckz (hcn) ?_ | refine cq (hcn) ?_ | refine pK_i (ldO_old (hb1 om1) rfl) ?_ | refine gk_appv_old (id := vid) (src := [entC e]) (hX1 om1) rfl rfl (hv1' om1) hel rfl (by simp [entC]) (by rw [hel]; simp [maxLen] at hE ⊢; omega) ?_ | refine gk_stpo_old (hX2 om1 _) rfl rfl (hb2 om1 _) rfl ⟨rfl, rfl, rfl, by simp⟩ ?_ | refine pK_i (ldO_old (List.getElem?_set_self (by rw [hX2]; exact hbl)) rfl) ?_ | refine ffinJ ⟨?_, ?_, ?_⟩ | refine eqk rfl ?_ | refine ffin _ rfl rfl hS (Sub.refl _) rfl ⟨?_, rfl, rfl⟩)
    · show D.tup [.int .u64 (IntKind.wrap .u64 (((entR (a :: E) ++ [entC e]).length : Nat) : Int)), .int .i64 0] = _
      rw [List.length_append, hel]
      have : IntKind.wrap .u64 (((E.length + 1 + 1 : Nat)) : Int) = ((E.length + 1 + 1 : Nat) : Int) := by simp at hE; rw [wu64]; omega
      exact congrArg (fun z => D.tup [.int .u64 z, .int .i64 0]) this
    · exact bk_next h hml hbl hbm hm1 (hI1 f e h.I h3) (Y := ((X.set mid om1).set vid (.vec (entR (a :: E) ++ [entC e]) 35 4)).set bid (.arr [.po cid 0, .vec vid (entR (a :: E) ++ [entC e]).length 4, .map mid, .int .i64 closed])) (vid := vid) (J := [.arr (entC e), o1]) (by simp) (fun id h1 h2 h4 => by rw [List.getElem?_set_ne (Ne.symm h1), List.getElem?_set_ne (fun hh : vid = id => h4 _ _ _ (hh ▸ hv1)), List.getElem?_set_ne (Ne.symm h2)]) (fun id hi => by rw [List.getElem?_set_ne (by have := h.lo; omega), List.getElem?_set_ne (by omega), List.getElem?_set_ne (by have := h.lo; omega)]) (by rw [List.getElem?_set_self (by rw [hX2]; exact hbl)]; simp [entR, entV]) (by rw [List.getElem?_set_ne (Ne.symm hbm), List.getElem?_set_ne (Ne.symm hvm), List.getElem?_set_self hml]) (by rw [List.getElem?_append_left (by rw [List.length_set, hX2]; exact hvl), List.getElem?_set_ne hvb, List.getElem?_set_self (by rw [hX1]; exact hvl)]; simp [entR]) hv3
    · exact List.append_nil _
end
theorem c24 : cFun E0.P 24 = some ⟨38, [(2, none)], .seq (.rg [⟨some 2, none, .mv (.k .nilsl)⟩]) (.seq (.seq (.rg [⟨some 7, none, .mv (.t 0)⟩, ⟨some 8, none, .call 33 [.t 7]⟩]) (.cond (.t 8) (.seq (.rg [⟨some 2, none, .mv (.k .nilsl)⟩]) .ret) .skip)) (.seq (.rg [⟨some 3, none, .mv (.k .nilsl)⟩]) (.seq (.seq (.rg [⟨some 9, none, .mv (.t 0)⟩, ⟨some 10, none, .nilck (.t 9)⟩, ⟨some 11, none, .fa 0 (.t 10)⟩, ⟨some 12, none, .ld 1 false (.t 11)⟩, ⟨some 13, none, .call 9 [.t 12]⟩, ⟨some 14, none, .len 1 (.t 13)⟩, ⟨some 15, none, .mv (.k (.int .i64 0))⟩]) (.block 0 (.loop (.seq (.rg [⟨some 16, none, .bin .lss .leaf (.t 15) (.t 14)⟩]) (.seq (.cond (.t 16) .skip (.exit 0)) (.seq (.block 1 (.seq (.rg [⟨some 17, none, .ia 5 (.t 13) (.t 15)⟩, ⟨some 18, none, .ld 5 true (.t 17)⟩, ⟨some 5, none, .alloc [.int .i64 0, .int .i64 0, .int .u8 0, .str ⟨#[]⟩, .bool false] 37⟩, ⟨none, none, .st 5 (.t 5) (.t 18)⟩]) (.seq (.rg [⟨some 19, none, .mv (.t 0)⟩, ⟨some 20, none, .fa 0 (.t 5)⟩, ⟨some 21, none, .ld 1 false (.t 20)⟩, ⟨some 22, none, .call 49 [.t 19, .t 21, .k (.int .i64 0), .k (.int .u64 0)]⟩, ⟨some 6, none, .mv (.t 22)⟩]) (.seq (.rg [⟨some 23, none, .mv (.t 6)⟩, ⟨some 24, none, .bin .neq .leaf (.t 23) (.k (.int .i64 0))⟩]) (.cond (.t 24) (.rg [⟨some 25, none, .mv (.t 3)⟩, ⟨some 26, none, .fa 0 (.t 5)⟩, ⟨some 27, none, .ld 1 false (.t 26)⟩, ⟨some 28, none, .mv (.t 6)⟩, ⟨some 29, none, .mm true [.t 28, .k (.int .i64 0)]⟩, ⟨some 30, none, .mv (.t 6)⟩, ⟨some 31, none, .un .neg (.t 30)⟩, ⟨some 32, none, .mm true [.t 31, .k (.int .i64 0)]⟩, ⟨some 33, none, .build [.int .i64 0, .int .i64 0, .int .i64 0] [(0, 1, .t 27), (1, 1, .t 29), (2, 1, .t 32)]⟩, ⟨some 34, none, .buildS 1 3 [.int .i64 0, .int .i64 0, .int .i64 0] [(0, .t 33)] 66⟩, ⟨some 35, none, .app 62 66 3 24 [.int .i64 0, .int .i64 0, .int .i64 0] (.t 25) (.t 34)⟩, ⟨some 3, none, .mv (.t 35)⟩]) .skip))))) (.rg [⟨some 36, none, .bin .add .leaf (.t 15) (.k (.int .i64 1))⟩, ⟨some 15, none, .mv (.t 36)⟩]))))))) (.seq (.rg [⟨some 37, none, .mv (.t 3)⟩, ⟨some 2, none, .mv (.t 37)⟩]) .ret))))⟩ := by kernel_rfl
theorem c25 : cFun E0.P 25 = some ⟨26, [(4, none)], .seq (.rg [⟨some 4, none, .mv (.k (.bool false))⟩]) (.seq (.seq (.rg [⟨some 6, none, .mv (.t 0)⟩, ⟨some 7, none, .len 1 (.t 6)⟩, ⟨some 8, none, .mv (.t 1)⟩, ⟨some 9, none, .len 1 (.t 8)⟩, ⟨some 10, none, .bin .neq .leaf (.t 7) (.t 9)⟩]) (.cond (.t 10) (.seq (.rg [⟨some 4, none, .mv (.k (.bool false))⟩]) .ret) .skip)) (.seq (.seq (.rg [⟨some 5, none, .mv (.k (.int .i64 0))⟩]) (.block 0 (.loop (.seq (.seq (.rg [⟨some 11, none, .mv (.t 5)⟩, ⟨some 12, none, .mv (.t 0)⟩, ⟨some 13, none, .len 1 (.t 12)⟩, ⟨some 14, none, .bin .lss .leaf (.t 11) (.t 13)⟩]) (.cond (.t 14) .skip (.exit 0))) (.seq (.block 1 (.seq (.rd [(⟨some 17, none, .mv (.t 0)⟩, none), (⟨some 18, none, .mv (.t 5)⟩, none), (⟨some 19, none, .ia 3 (.t 17) (.t 18)⟩, none), (⟨some 20, none, .ld 3 true (.t 19)⟩, none), (⟨some 21, none, .mv (.t 1)⟩, none), (⟨some 22, none, .mv (.t 5)⟩, none), (⟨some 23, none, .ia 3 (.t 21) (.t 22)⟩, none), (⟨some 24, none, .ld 3 true (.t 23)⟩, none), (⟨some 25, none, .bin .neq (.agg [(0, .i), (1, .i), (2, .i)]) (.t 20) (.t 24)⟩, none)]) (.cond (.t 25) (.seq (.rg [⟨some 4, none, .mv (.k (.bool false))⟩]) .ret) .skip))) (.rg [⟨some 15, none, .mv (.t 5)⟩, ⟨some 16, none, .bin .add .leaf (.t 15) (.k (.int .i64 1))⟩, ⟨some 5, none, .mv (.t 16)⟩])))))) (.seq (.rg [⟨some 4, none, .mv (.k (.bool true))⟩]) .ret)))⟩ := by kernel_rfl

structure Ba where
  acc : Int
  deb : Int
  cre : Int
  deriving DecidableEq, Inhabited
def Ba.cs (b : Ba) : List D := [.int .i64 b.acc, .int .i64 b.deb, .int .i64 b.cre]
def bas (l : List Ba) : List (List D) := l.map Ba.cs
theorem bas_len (l : List Ba) : (bas l).length = l.length := List.length_map ..
theorem scLL_bas (n m : Nat) : ∀ l : List Ba, scLL n m (bas l) = true
  | [] => rfl
  | x :: l => by
    have h := scLL_bas n m l
    unfold bas at h ⊢
    simp only [List.map_cons, scLL, h, Bool.and_true]; rfl
def ownV (f : Slot → Option Int) (c : Int) : Int := (f (c, 0, 0)).getD 0
def baV (f : Slot → Option Int) (a : Go.KL.YtkojphmejddhiaaGreatDoor.Ac) : Ba := ⟨a.code, max (ownV f a.code) 0, max (IntKind.wrap .i64 (0 - ownV f a.code)) 0⟩
def triL (ql : AcL) (f : Slot → Option Int) : List Ba := (ql.filter fun a => decide (ownV f a.code ≠ 0)).map (baV f)
theorem triL_snoc (ql : AcL) (f : Slot → Option Int) {i : Nat} (hi : i < ql.length) : triL (ql.take (i + 1)) f = triL (ql.take i) f ++ if ownV f (ql[i]!).code ≠ 0 then [baV f ql[i]!] else [] := by
  rw [Go.KL.YtkojphmejddhiaaGreatDoor.take_snA hi, triL, List.filter_append, List.map_append, triL]
  generalize ql[i]! = a
  congr 1
  by_cases h : ownV f a.code = 0 <;> simp [h]
theorem triL_len (ql : AcL) (f : Slot → Option Int) : (triL ql f).length ≤ ql.length := by rw [triL, List.length_map]; exact List.length_filter_le ..
theorem all_cN {ql : AcL} {o : O} {S : List O} {tk : Tks} {cid mid : Nat} (hok : OkQ ql) (hch : Ch (look ql) o) (hc : S[cid]? = some (.arr [.map mid])) (hm : S[mid]? = some o) (hl : ql.length < 1000000) :
    ACalls E0 9 [.po cid 0] S tk (fun r S' tk' => r = .sl (acsL ql) ∧ S' = S ∧ tk' = tk) := by
  have h := all_c (tk := tk) hch hc hm hok.keys (by rw [List.length_map]; exact hl)
  rw [hok.all] at h; exact h
section
variable {X : List O} {tk : Tks} {lo bid cid kid mid : Nat} {ql : AcL} {f : Slot → Option Int} {E : List Ent} {closed : Int}
set_option maxHeartbeats 1000000 in
theorem trial_b (h : BkR X lo bid cid kid mid ql f E closed) : ACalls E0 24 [.po bid 0] X tk (fun r S' tk' => r = .sl (bas (triL ql f)) ∧ S' = X ∧ tk' = tk) := by
  obtain ⟨vid, ety, hb, -⟩ := h.b
  obtain ⟨oc, hk, hch⟩ := h.k
  obtain ⟨om, hm, hf⟩ := h.m
  have hlen := acsL_len ql
  have hql := h.lq
  have hbl := (List.getElem?_eq_some_iff.1 hb).1
  refine ACalls.fgo c24 rfl fun hS => ?_
  repeat' first | with_reducible refine fzD_ite (fun q => ?_) (fun q => ?_) | ((try conv => whnf); first | refine bs_d (fun q => ?_) (fun q => ?_) | refine bs_n ?_ | refine bs_i (fun q => ?_) (fun q => ?_) | refine ckA rfl rfl (none_b (at_old hb)) ?_ | refine pK_i (ldO_old hb rfl) ?_ | refine ckA rfl rfl (all_cN h.ok hch (at_old h.c) (at_old hk) h.lq) ?_ | refine eqk rfl ?_ | refine ffin _ rfl rfl hS (Sub.refl _) rfl ⟨?_, rfl, rfl⟩)
  conv => whnf
  refine floop (α := Nat) rfl rfl hS (fun i => i ≤ ql.length) (fun i => ql.length - i) (fun i => [(15, .d (.int .i64 i)), (14, .d (.int .i64 ql.length)), (13, .d (.sl (acsL ql))), (0, .d (.po bid 0)), (3, .d (.gsl (bas (triL (ql.take i) f)) (tk.length + 0)))]) (fun _ => []) (fun i => [((bas (triL (ql.take i) f)).length, 66, 3)]) 0 (Nat.zero_le _) (fstep_tok 66 3 (t := 3) (.inl rfl) ⟨Sub.refl _, Sub.int (by rw [hlen]), Sub.refl _, Sub.refl _, Sub.refl _, trivial⟩) ?_
  intro i hi
  by_cases hlt : i < ql.length
  · have hs := sum_b (tk := tk ++ [((bas (triL (ql.take i) f)).length, 66, 3)]) (bid := bid) hb hm hf (ql[i]!).code 0 0
    have hst := triL_snoc ql f hlt
    have hll := triL_len (ql.take i) f
    rw [List.length_take] at hll
    change ACalls _ _ _ _ _ (fun r S' tk' => r = .int .i64 (ownV f (ql[i]!).code) ∧ _ ∧ _) at hs
    obtain ⟨n, hn⟩ : ∃ n, n = ownV f (ql[i]!).code := ⟨_, rfl⟩
    have hs2 : ∀ (J : List O), ACalls E0 49 [.po bid 0, .int .i64 (ql[i]!).code, .int .i64 0, .int .u64 0] (X ++ J) (tk ++ [((bas (triL (ql.take i) f)).length, 66, 3)]) (fun r S' tk' => r = .int .i64 n ∧ S' = X ++ J ∧ tk' = (tk ++ [((bas (triL (ql.take i) f)).length, 66, 3)])) := fun J => by
      rw [hn]; exact sum_b (at_old hb) (at_old hm) hf (ql[i]!).code 0 0
    by_cases h0 : n = 0
    · rw [if_neg (by rw [← hn]; simpa using h0), List.append_nil] at hst
      repeat' first | with_reducible refine fzD_ite (fun q => ?_) (fun q => ?_) | ((try conv => whnf); first | refine bs_t (decide_eq_true (by omega)) ?_ | refine bs_t (decide_eq_true h0) ?_ | refine bs_d (fun q => ?_) (fun q => ?_) | refine bs_n ?_ | refine bs_i (fun q => ?_) (fun q => ?_) | refine pK_i (iaD_ac (l := ql) (i := i) rfl hlt) ?_ | refine ckA rfl rfl (hs2 _) ?_ | refine eqk rfl ?_ | refine ffin _ rfl rfl hS (Sub.refl _) rfl ⟨?_, rfl, rfl⟩)
      conv => whnf
      rw [← hst]
      exact fnext (α := Nat) (i + 1) (by omega) (by omega) (fstep_drop (J' := []) (Jx := [_]) (TK' := [_]) (TKx := []) rfl rfl ⟨Sub.int (by first | rfl | omega | (refine Int.sub_eq_zero.mp ?_; simp (disch := ((try unfold I64); omega)) only [wi64_id, td]; omega)), Sub.refl _, Sub.refl _, Sub.refl _, Sub.refl _, trivial⟩ (by simp [frD, FD.to, frSc, D.sc, sc_acsL, scLL_bas, hbl]) rfl)
    · rw [if_pos (by rw [← hn]; exact h0)] at hst
      have hgl : bas (triL (ql.take i) f) ++ [[.int .i64 (ql[i]!).code, .int .i64 (max n 0), .int .i64 (max (IntKind.wrap .i64 (0 - n)) 0)]] = bas (triL (ql.take (i + 1)) f) := by rw [hst, bas, bas, List.map_append, hn]; rfl
      repeat' first | with_reducible refine fzD_ite (fun q => ?_) (fun q => ?_) | ((try conv => whnf); first | refine bs_t (decide_eq_true (by omega)) ?_ | refine bs_f (decide_eq_false h0) ?_ | refine bs_d (fun q => ?_) (fun q => ?_) | refine bs_n ?_ | refine bs_i (fun q => ?_) (fun q => ?_) | refine pK_i (iaD_ac (l := ql) (i := i) rfl hlt) ?_ | refine ckA rfl rfl (hs2 _) ?_ | (refine gk_app (t := 0) (src := [[.int .i64 (ql[i]!).code, .int .i64 (max n 0), .int .i64 (max (IntKind.wrap .i64 (0 - n)) 0)]]) rfl rfl (by rfl) (by rfl) (by rfl) (by simp) (by rw [bas_len]; generalize (triL (ql.take i) f).length = z at hll ⊢; simp [maxLen]; omega) ?_; rw [hgl]) | refine eqk rfl ?_ | refine ffin _ rfl rfl hS (Sub.refl _) rfl ⟨?_, rfl, rfl⟩)
      conv => whnf
      exact fnext (α := Nat) (i + 1) (by omega) (by omega) (fstep_drop (J' := []) (Jx := [_]) (TK' := [_]) (TKx := []) rfl rfl ⟨Sub.int (by first | rfl | omega | (refine Int.sub_eq_zero.mp ?_; simp (disch := ((try unfold I64); omega)) only [wi64_id, td]; omega)), Sub.refl _, Sub.refl _, Sub.refl _, Sub.refl _, trivial⟩ (by simp [frD, FD.to, frSc, D.sc, sc_acsL, scLL_bas, hbl]) rfl)
  · obtain rfl : i = ql.length := by omega
    rw [List.take_length]
    repeat' first | with_reducible refine fzD_ite (fun q => ?_) (fun q => ?_) | ((try conv => whnf); first | refine bs_f (decide_eq_false (by omega)) ?_ | refine bs_d (fun q => ?_) (fun q => ?_) | refine bs_n ?_ | refine bs_i (fun q => ?_) (fun q => ?_) | refine ffin (.sl (bas (triL ql f))) rfl rfl hS (Sub.rd rfl) (scLL_bas _ _ _) ⟨?_, rfl, rfl⟩ | refine eqk rfl ?_ | refine ffin _ rfl rfl hS (Sub.refl _) rfl ⟨?_, rfl, rfl⟩)
    all_goals rfl
end
theorem take_eqB {α : Type} [Inhabited α] {a b : List α} {i : Nat} (ha : i < a.length) (hb : i < b.length) (h : a.take i = b.take i) (e : a[i]! = b[i]!) : a.take (i + 1) = b.take (i + 1) := by
  rw [take_snA ha, take_snA hb, h, e]
def baEq (x y : Ba) : Bool := decide (x.acc = y.acc) && (decide (x.deb = y.deb) && (decide (x.cre = y.cre) && true))
theorem ba_t {x y : Ba} (h : baEq x y = true) : x = y := by
  simp only [baEq, Bool.and_true, Bool.and_eq_true, decide_eq_true_eq] at h
  cases x; cases y
  simp_all
theorem ba_f {x y : Ba} (h : baEq x y = false) : ¬ x = y := fun e => by subst e; simp [baEq] at h
theorem iaD_ba {l : List Ba} {i : Nat} {n : Int} (h : n = i) (hi : i < l.length) : iaD 3 (.sl (bas l)) (.int .i64 n) = some (.pe (l[i]!).cs 0) := by
  subst h
  exact iaD_map (f := Ba.cs) (by omega) (by rw [Int.toNat_natCast, List.getElem?_eq_getElem hi, getElem!_pos l i hi]) rfl
set_option maxHeartbeats 1000000 in
theorem sameB (a b : List Ba) (ha : a.length < 4611686018427387904) (hb : b.length < 4611686018427387904) : Pure 25 [.sl (bas a), .sl (bas b)] (.bool (decide (a = b))) := by
  intro S tk
  have la := bas_len a
  have lb := bas_len b
  refine ACalls.fgo c25 rfl fun hS => ?_
  repeat' first | with_reducible refine fzD_ite (fun q => ?_) (fun q => ?_) | ((try conv => whnf); first | refine bs_d (fun q => ?_) (fun q => ?_) | refine bs_n ?_ | refine bs_i (fun q => ?_) (fun q => ?_) | refine eqk rfl ?_ | refine ffin _ rfl rfl hS (Sub.refl _) rfl ⟨?_, rfl, rfl⟩)
  rotate_left
  · exact congrArg D.bool (decide_eq_false (fun e => by subst e; omega)).symm
  conv => whnf
  have hl : a.length = b.length := by omega
  refine floop (α := Nat) rfl rfl hS (fun i => i ≤ a.length ∧ a.take i = b.take i) (fun i => a.length - i) (fun i => [(5, .d (.int .i64 i)), (0, .d (.sl (bas a))), (1, .d (.sl (bas b)))]) (fun _ => []) (fun _ => []) 0 ⟨Nat.zero_le _, rfl⟩ (fstep_sub ⟨Sub.refl _, Sub.refl _, Sub.refl _, trivial⟩) ?_
  rintro i ⟨h1, h2⟩
  repeat' first | with_reducible refine fzD_ite (fun q => ?_) (fun q => ?_) | ((try conv => whnf); first | refine bs_d (fun q => ?_) (fun q => ?_) <;> (try simp (disch := ((try unfold I64); omega)) only [wi64_id, td] at q) | refine bs_n ?_ | refine bs_i (fun q => ?_) (fun q => ?_) | refine pK_i (iaD_ba (i := i) (by first | rfl | omega | (refine Int.sub_eq_zero.mp ?_; simp (disch := ((try unfold I64); omega)) only [wi64_id, td]; omega)) (by omega)) ?_ | refine eqk rfl ?_ | refine ffin _ rfl rfl hS (Sub.refl _) rfl ⟨?_, rfl, rfl⟩)
  · conv => whnf
    refine fnext (α := Nat) (i + 1) ⟨by omega, take_eqB (by omega) (by omega) h2 (ba_t (by assumption))⟩ (by omega) (fstep_sub ⟨Sub.int (by rw [wi64_id]; omega; unfold I64; omega), Sub.refl _, Sub.refl _, trivial⟩)
  · exact congrArg D.bool (decide_eq_false (fun e => ba_f (by assumption) (by rw [e]))).symm
  · rw [List.take_of_length_le (by omega), List.take_of_length_le (by omega)] at h2
    exact congrArg D.bool (decide_eq_true h2).symm
theorem c6 : cFun E0.P 6 = some ⟨19, [(0, none)], .seq (.rg [⟨some 0, none, .mv (.k .nilp)⟩]) (.seq (.rg [⟨some 4, none, .call 26 []⟩, ⟨some 1, none, .mv (.t 4)⟩]) (.seq (.rg [⟨some 5, none, .call 27 []⟩, ⟨some 2, none, .mv (.t 5)⟩]) (.seq (.seq (.rg [⟨some 3, none, .mv (.k (.int .i64 0))⟩]) (.block 0 (.loop (.seq (.seq (.rg [⟨some 6, none, .mv (.t 3)⟩, ⟨some 7, none, .mv (.t 2)⟩, ⟨some 8, none, .len 1 (.t 7)⟩, ⟨some 9, none, .bin .lss .leaf (.t 6) (.t 8)⟩]) (.cond (.t 9) .skip (.exit 0))) (.seq (.block 1 (.rg [⟨some 12, none, .mv (.t 1)⟩, ⟨some 13, none, .mv (.t 2)⟩, ⟨some 14, none, .mv (.t 3)⟩, ⟨some 15, none, .ia 5 (.t 13) (.t 14)⟩, ⟨some 16, none, .ld 5 true (.t 15)⟩, ⟨some 17, none, .call 13 [.t 12, .t 16]⟩])) (.rg [⟨some 10, none, .mv (.t 3)⟩, ⟨some 11, none, .bin .add .leaf (.t 10) (.k (.int .i64 1))⟩, ⟨some 3, none, .mv (.t 11)⟩])))))) (.seq (.rg [⟨some 18, none, .mv (.t 1)⟩, ⟨some 0, none, .mv (.t 18)⟩]) .ret))))⟩ := by kernel_rfl
theorem c18 : cFun E0.P 18 = some ⟨13, [(4, some (4, true))], .seq (.rg [⟨some 4, none, .alloc [.int .i64 0, .int .u8 0, .int .u64 0, .nilsl] 35⟩]) (.seq (.rg [⟨some 5, none, .mv (.t 0)⟩, ⟨some 6, none, .mv (.t 1)⟩, ⟨some 7, none, .build [.int .i64 0, .int .u64 0, .int .u64 0, .int .i64 0] [(0, 1, .k (.int .i64 1200)), (1, 1, .k (.int .u64 7)), (3, 1, .t 6)]⟩, ⟨some 8, none, .mv (.t 1)⟩, ⟨some 9, none, .un .neg (.t 8)⟩, ⟨some 10, none, .build [.int .i64 0, .int .u64 0, .int .u64 0, .int .i64 0] [(0, 1, .k (.int .i64 2100)), (1, 1, .k (.int .u64 7)), (3, 1, .t 9)]⟩, ⟨some 11, none, .buildS 2 4 [.int .i64 0, .int .u64 0, .int .u64 0, .int .i64 0] [(0, .t 7), (1, .t 10)] 85⟩, ⟨some 12, none, .build [.int .i64 0, .int .u8 0, .int .u64 0, .nilsl] [(0, 1, .t 5), (1, 1, .k (.int .u8 1)), (3, 1, .t 11)]⟩, ⟨none, none, .st 4 (.t 4) (.t 12)⟩]) .ret)⟩ := by kernel_rfl

def stepQ (ql : AcL) (a : Go.KL.YtkojphmejddhiaaGreatDoor.Ac) : AcL := addR ql (dep (look ql) a.up) a
theorem step_ok {ql : AcL} (h : OkQ ql) (a : Go.KL.YtkojphmejddhiaaGreatDoor.Ac) : OkQ (stepQ ql a) ∧ (stepQ ql a).length ≤ ql.length + 1 := (add_next h (h.low.ends _)).1
theorem fold_ok : ∀ (l : AcL) {ql : AcL}, OkQ ql → OkQ (l.foldl stepQ ql) ∧ (l.foldl stepQ ql).length ≤ ql.length + l.length
  | [], ql, h => ⟨h, Nat.le_refl _⟩
  | a :: l, ql, h => by
    obtain ⟨h1, h2⟩ := step_ok h a
    obtain ⟨h3, h4⟩ := fold_ok l h1
    exact ⟨h3, by rw [List.foldl_cons, List.length_cons]; omega⟩
theorem std_ok0 : OkQ (stdA.foldl stepQ []) ∧ (stdA.foldl stepQ []).length ≤ 6 := by
  obtain ⟨h1, h2⟩ := fold_ok stdA ok_nil
  exact ⟨h1, by simpa using h2⟩
structure StS where
  i : Nat
  o : O
def stdB : AcL := stdA.foldl stepQ []
set_option maxHeartbeats 1000000 in
theorem standard_b (S : List O) (tk : Tks) :
    ACalls E0 6 [] S tk (fun r S' tk' => ∃ o, (r = .po (S.length + 1) 0 ∧ Ch (look stdB) o) ∧ S' = S ++ [o, .arr [.map S.length]] ∧ tk' = tk) := by
  refine ACalls.fgo c6 rfl fun hS => ?_
  repeat' first | with_reducible refine fzD_ite (fun q => ?_) (fun q => ?_) | ((try conv => whnf); first | refine bs_d (fun q => ?_) (fun q => ?_) | refine bs_n ?_ | refine bs_i (fun q => ?_) (fun q => ?_) | refine ckz (std1) ?_ | refine cq (std1) ?_ | refine ckN (d := .po (S.length + 1) 0) (Jn := [.map ktI (entKv []) 0, .arr [.map S.length]]) rfl rfl (by have := new_at S tk; rw [List.append_nil, List.append_nil]; exact this) ?_ | refine eqk rfl ?_ | refine ffin _ rfl rfl hS (Sub.refl _) rfl ⟨?_, rfl, rfl⟩)
  refine floop (α := StS) rfl rfl hS (fun s => s.i ≤ 6 ∧ Ch (look ((stdA.take s.i).foldl stepQ [])) s.o) (fun s => 6 - s.i) (fun s => [(3, .d (.int .i64 s.i)), (2, .d (.sl (acsL stdA))), (1, .d (.po (S.length + 1) 0))]) (fun s => [s.o, .arr [.map S.length]]) (fun _ => []) ⟨0, .map ktI (entKv []) 0⟩ ⟨Nat.zero_le _, ch_new⟩ (fstep_sub ⟨Sub.refl _, Sub.refl _, Sub.refl _, trivial⟩) ?_
  rintro ⟨i, o⟩ ⟨hi, hch⟩
  simp only at hi hch ⊢
  by_cases hlt : i < 6
  · obtain ⟨hok, hql⟩ := fold_ok (stdA.take i) ok_nil
    have he := hok.low.ends (stdA[i]!).up
    obtain ⟨_, chA⟩ := add_next (a := stdA[i]!) hok he
    have hd := add_hd (a := stdA[i]!) hok he
    have hn : dep (look ((stdA.take i).foldl stepQ [])) (stdA[i]!).up < 1000000 := by have := depF_le (look ((stdA.take i).foldl stepQ [])) 8 (stdA[i]!).up; unfold dep; omega
    have hnx : (stdA.take (i + 1)).foldl stepQ [] = addR ((stdA.take i).foldl stepQ []) (dep (look ((stdA.take i).foldl stepQ [])) (stdA[i]!).up) stdA[i]! := by
      rw [Go.KL.YtkojphmejddhiaaGreatDoor.take_snA (show i < stdA.length from hlt), List.foldl_append]; rfl
    repeat' first | with_reducible refine fzD_ite (fun q => ?_) (fun q => ?_) | ((try conv => whnf); first | refine bs_t (decide_eq_true (show (i : Int) < (acsL stdA).length by rw [acsL_len]; simp; omega)) ?_ | refine bs_d (fun q => ?_) (fun q => ?_) | refine bs_n ?_ | refine bs_i (fun q => ?_) (fun q => ?_) | refine pK_i (iaD_ac (l := stdA) (i := i) rfl hlt) ?_ | (refine ckJE (k := 0) (ds' := [.po (S.length + 1) 0, acD stdA[i]!]) rfl rfl (add_c (cid := S.length + 1) (mid := S.length + 0) (f := look ((stdA.take i).foldl stepQ [])) hch (at_own rfl rfl) (at_own (k := 0) rfl rfl) stdA[i]! _ hn hd) (SubL.refl _) ?_; rintro r o2 ⟨rfl, ch2⟩; skip) | refine eqk rfl ?_ | refine ffin _ rfl rfl hS (Sub.refl _) rfl ⟨?_, rfl, rfl⟩)
    conv => whnf
    exact fnext (α := StS) ⟨i + 1, o2⟩ ⟨by simp only; omega, by rw [hnx]; exact chA _ ch2⟩ (by simp only; omega) (fstep_sub ⟨Sub.int (by first | rfl | omega | (refine Int.sub_eq_zero.mp ?_; simp (disch := ((try unfold I64); omega)) only [wi64_id, td]; omega)), Sub.refl _, Sub.refl _, trivial⟩)
  · obtain rfl : i = 6 := by omega
    repeat' first | with_reducible refine fzD_ite (fun q => ?_) (fun q => ?_) | ((try conv => whnf); first | refine bs_f (decide_eq_false (show ¬ ((6 : Nat) : Int) < (acsL stdA).length by rw [acsL_len]; simp)) ?_ | refine bs_d (fun q => ?_) (fun q => ?_) | refine bs_n ?_ | refine bs_i (fun q => ?_) (fun q => ?_) | refine ffinJ ⟨o, ⟨rfl, hch⟩, rfl, List.append_nil _⟩ | refine eqk rfl ?_ | refine ffin _ rfl rfl hS (Sub.refl _) rfl ⟨?_, rfl, rfl⟩)
def twoE (day n : Int) : Ent := ⟨day, 1, 0, [⟨1200, 7, 0, n⟩, ⟨2100, 7, 0, IntKind.wrap .i64 (0 - n)⟩]⟩
theorem two (day n : Int) : Pure 18 [.int .i64 day, .int .i64 n] (twoE day n).d := by
  intro S tk
  refine ACalls.fgo c18 rfl fun hS => ?_
  repeat' first | with_reducible refine fzD_ite (fun q => ?_) (fun q => ?_) | ((try conv => whnf); first | refine bs_d (fun q => ?_) (fun q => ?_) | refine bs_n ?_ | refine bs_i (fun q => ?_) (fun q => ?_) | refine eqk rfl ?_ | refine ffin _ rfl rfl hS (Sub.refl _) rfl ⟨?_, rfl, rfl⟩)
  all_goals rfl
end Go.KL.YtkojphmejddhiaaGreatDoor.J
namespace Go.KL.YtkojphmejddhiaaGreatDoor
open Go Go.KL Go.RowKit Go.Proofs
theorem c82 : cFun E0.P 82 = some ⟨20, [(2, none)], .seq (.rg [⟨some 2, none, .mv (.k (.bool false))⟩]) (.seq (.seq (.rg [⟨some 3, none, .mv (.t 0)⟩, ⟨some 4, none, .bin .lss .leaf (.t 3) (.k (.int .i64 1))⟩, ⟨some 5, none, .mv (.t 4)⟩, ⟨some 6, some (5, false), .mv (.t 0)⟩, ⟨some 7, some (5, false), .bin .gtr .leaf (.t 6) (.k (.int .i64 9999))⟩, ⟨some 8, none, .pick (.t 5) (.k (.bool true)) (.t 7)⟩]) (.cond (.t 8) (.seq (.rg [⟨some 2, none, .mv (.k (.bool false))⟩]) .ret) .skip)) (.seq (.seq (.rg [⟨some 9, none, .mv (.t 0)⟩, ⟨some 10, none, .bin .rem .leaf (.t 9) (.k (.int .i64 400))⟩, ⟨some 11, none, .bin .eql .leaf (.t 10) (.k (.int .i64 0))⟩]) (.cond (.t 11) (.seq (.rg [⟨some 2, none, .mv (.k (.bool true))⟩]) .ret) .skip)) (.seq (.rg [⟨some 12, none, .mv (.t 0)⟩, ⟨some 13, none, .bin .rem .leaf (.t 12) (.k (.int .i64 4))⟩, ⟨some 14, none, .bin .eql .leaf (.t 13) (.k (.int .i64 0))⟩, ⟨some 15, none, .mv (.t 14)⟩, ⟨some 16, some (15, true), .mv (.t 0)⟩, ⟨some 17, some (15, true), .bin .rem .leaf (.t 16) (.k (.int .i64 100))⟩, ⟨some 18, some (15, true), .bin .neq .leaf (.t 17) (.k (.int .i64 0))⟩, ⟨some 19, none, .pick (.t 15) (.t 18) (.k (.bool false))⟩, ⟨some 2, none, .mv (.t 19)⟩]) .ret)))⟩ := by kernel_rfl
theorem c67 : cFun E0.P 67 = some ⟨23, [(4, none)], .seq (.rg [⟨some 4, none, .mv (.k (.int .i64 0))⟩]) (.seq (.seq (.rg [⟨some 5, none, .mv (.t 1)⟩, ⟨some 6, none, .bin .eql .leaf (.t 5) (.k (.int .i64 2))⟩]) (.cond (.t 6) (.seq (.seq (.rg [⟨some 7, none, .mv (.t 0)⟩, ⟨some 8, none, .call 82 [.t 7]⟩]) (.cond (.t 8) (.seq (.rg [⟨some 4, none, .mv (.k (.int .i64 29))⟩]) .ret) .skip)) (.seq (.rg [⟨some 4, none, .mv (.k (.int .i64 28))⟩]) .ret)) .skip)) (.seq (.seq (.rg [⟨some 9, none, .mv (.t 1)⟩, ⟨some 10, none, .bin .eql .leaf (.t 9) (.k (.int .i64 4))⟩, ⟨some 11, none, .mv (.t 10)⟩, ⟨some 12, some (11, false), .mv (.t 1)⟩, ⟨some 13, some (11, false), .bin .eql .leaf (.t 12) (.k (.int .i64 6))⟩, ⟨some 14, none, .pick (.t 11) (.k (.bool true)) (.t 13)⟩, ⟨some 15, none, .mv (.t 14)⟩, ⟨some 16, some (15, false), .mv (.t 1)⟩, ⟨some 17, some (15, false), .bin .eql .leaf (.t 16) (.k (.int .i64 9))⟩, ⟨some 18, none, .pick (.t 15) (.k (.bool true)) (.t 17)⟩, ⟨some 19, none, .mv (.t 18)⟩, ⟨some 20, some (19, false), .mv (.t 1)⟩, ⟨some 21, some (19, false), .bin .eql .leaf (.t 20) (.k (.int .i64 11))⟩, ⟨some 22, none, .pick (.t 19) (.k (.bool true)) (.t 21)⟩]) (.cond (.t 22) (.seq (.rg [⟨some 4, none, .mv (.k (.int .i64 30))⟩]) .ret) .skip)) (.seq (.rg [⟨some 4, none, .mv (.k (.int .i64 31))⟩]) .ret)))⟩ := by kernel_rfl
theorem c68 : cFun E0.P 68 = some ⟨5, [(2, none)], .seq (.rg [⟨some 2, none, .mv (.k (.int .i64 0))⟩]) (.seq (.seq (.rg [⟨some 3, none, .mv (.t 0)⟩, ⟨some 4, none, .call 82 [.t 3]⟩]) (.cond (.t 4) (.seq (.rg [⟨some 2, none, .mv (.k (.int .i64 366))⟩]) .ret) .skip)) (.seq (.rg [⟨some 2, none, .mv (.k (.int .i64 365))⟩]) .ret))⟩ := by kernel_rfl
theorem c48 : cFun E0.P 48 = some ⟨67, [(6, none), (7, none)], .seq (.rg [⟨some 6, none, .mv (.k (.int .i64 0))⟩, ⟨some 7, none, .mv (.k (.int .i64 0))⟩]) (.seq (.seq (.rg [⟨some 11, none, .mv (.t 0)⟩, ⟨some 12, none, .bin .lss .leaf (.t 11) (.k (.int .i64 1))⟩, ⟨some 13, none, .mv (.t 12)⟩, ⟨some 14, some (13, false), .mv (.t 0)⟩, ⟨some 15, some (13, false), .bin .gtr .leaf (.t 14) (.k (.int .i64 9999))⟩, ⟨some 16, none, .pick (.t 13) (.k (.bool true)) (.t 15)⟩, ⟨some 17, none, .mv (.t 16)⟩, ⟨some 18, some (17, false), .mv (.t 1)⟩, ⟨some 19, some (17, false), .bin .lss .leaf (.t 18) (.k (.int .i64 1))⟩, ⟨some 20, none, .pick (.t 17) (.k (.bool true)) (.t 19)⟩, ⟨some 21, none, .mv (.t 20)⟩, ⟨some 22, some (21, false), .mv (.t 1)⟩, ⟨some 23, some (21, false), .bin .gtr .leaf (.t 22) (.k (.int .i64 12))⟩, ⟨some 24, none, .pick (.t 21) (.k (.bool true)) (.t 23)⟩, ⟨some 25, none, .mv (.t 24)⟩, ⟨some 26, some (25, false), .mv (.t 2)⟩, ⟨some 27, some (25, false), .bin .lss .leaf (.t 26) (.k (.int .i64 1))⟩, ⟨some 28, none, .pick (.t 25) (.k (.bool true)) (.t 27)⟩, ⟨some 29, none, .mv (.t 28)⟩, ⟨some 30, some (29, false), .mv (.t 2)⟩, ⟨some 31, some (29, false), .mv (.t 0)⟩, ⟨some 32, some (29, false), .mv (.t 1)⟩, ⟨some 33, some (29, false), .call 67 [.t 31, .t 32]⟩, ⟨some 34, some (29, false), .bin .gtr .leaf (.t 30) (.t 33)⟩, ⟨some 35, none, .pick (.t 29) (.k (.bool true)) (.t 34)⟩]) (.cond (.t 35) (.seq (.rg [⟨some 6, none, .mv (.k (.int .i64 0))⟩, ⟨some 7, none, .mv (.k (.int .i64 2))⟩]) .ret) .skip)) (.seq (.rg [⟨some 36, none, .mv (.t 2)⟩, ⟨some 37, none, .mv (.t 0)⟩, ⟨some 38, none, .bin .sub .leaf (.t 37) (.k (.int .i64 1))⟩, ⟨some 39, none, .bin .quo .leaf (.t 38) (.k (.int .i64 400))⟩, ⟨some 40, none, .bin .mul .leaf (.t 39) (.k (.int .i64 146097))⟩, ⟨some 41, none, .bin .add .leaf (.t 36) (.t 40)⟩, ⟨some 8, none, .mv (.t 41)⟩]) (.seq (.seq (.rg [⟨some 42, none, .mv (.t 0)⟩, ⟨some 43, none, .mv (.t 0)⟩, ⟨some 44, none, .bin .sub .leaf (.t 43) (.k (.int .i64 1))⟩, ⟨some 45, none, .bin .rem .leaf (.t 44) (.k (.int .i64 400))⟩, ⟨some 46, none, .bin .sub .leaf (.t 42) (.t 45)⟩, ⟨some 9, none, .mv (.t 46)⟩]) (.block 0 (.loop (.seq (.seq (.rg [⟨some 47, none, .mv (.t 9)⟩, ⟨some 48, none, .mv (.t 0)⟩, ⟨some 49, none, .bin .lss .leaf (.t 47) (.t 48)⟩]) (.cond (.t 49) .skip (.exit 0))) (.seq (.block 1 (.rg [⟨some 52, none, .mv (.t 8)⟩, ⟨some 53, none, .mv (.t 9)⟩, ⟨some 54, none, .call 68 [.t 53]⟩, ⟨some 55, none, .bin .add .leaf (.t 52) (.t 54)⟩, ⟨some 8, none, .mv (.t 55)⟩])) (.rg [⟨some 50, none, .mv (.t 9)⟩, ⟨some 51, none, .bin .add .leaf (.t 50) (.k (.int .i64 1))⟩, ⟨some 9, none, .mv (.t 51)⟩])))))) (.seq (.seq (.rg [⟨some 10, none, .mv (.k (.int .i64 1))⟩]) (.block 2 (.loop (.seq (.seq (.rg [⟨some 56, none, .mv (.t 10)⟩, ⟨some 57, none, .mv (.t 1)⟩, ⟨some 58, none, .bin .lss .leaf (.t 56) (.t 57)⟩]) (.cond (.t 58) .skip (.exit 2))) (.seq (.block 3 (.rg [⟨some 61, none, .mv (.t 8)⟩, ⟨some 62, none, .mv (.t 0)⟩, ⟨some 63, none, .mv (.t 10)⟩, ⟨some 64, none, .call 67 [.t 62, .t 63]⟩, ⟨some 65, none, .bin .add .leaf (.t 61) (.t 64)⟩, ⟨some 8, none, .mv (.t 65)⟩])) (.rg [⟨some 59, none, .mv (.t 10)⟩, ⟨some 60, none, .bin .add .leaf (.t 59) (.k (.int .i64 1))⟩, ⟨some 10, none, .mv (.t 60)⟩])))))) (.seq (.rg [⟨some 66, none, .mv (.t 8)⟩, ⟨some 6, none, .mv (.t 66)⟩, ⟨some 7, none, .mv (.k (.int .i64 0))⟩]) .ret)))))⟩ := by kernel_rfl
theorem c21 : cFun E0.P 21 = some ⟨25, [(4, none), (5, none)], .seq (.rg [⟨some 4, none, .mv (.k (.int .i64 0))⟩, ⟨some 5, none, .mv (.k (.int .i64 0))⟩]) (.seq (.seq (.rg [⟨some 6, none, .mv (.t 0)⟩, ⟨some 7, none, .bin .lss .leaf (.t 6) (.k (.int .i64 1))⟩, ⟨some 8, none, .mv (.t 7)⟩, ⟨some 9, some (8, false), .mv (.t 0)⟩, ⟨some 10, some (8, false), .bin .gtr .leaf (.t 9) (.k (.int .i64 9999))⟩, ⟨some 11, none, .pick (.t 8) (.k (.bool true)) (.t 10)⟩, ⟨some 12, none, .mv (.t 11)⟩, ⟨some 13, some (12, false), .mv (.t 1)⟩, ⟨some 14, some (12, false), .bin .lss .leaf (.t 13) (.k (.int .i64 1))⟩, ⟨some 15, none, .pick (.t 12) (.k (.bool true)) (.t 14)⟩, ⟨some 16, none, .mv (.t 15)⟩, ⟨some 17, some (16, false), .mv (.t 1)⟩, ⟨some 18, some (16, false), .bin .gtr .leaf (.t 17) (.k (.int .i64 12))⟩, ⟨some 19, none, .pick (.t 16) (.k (.bool true)) (.t 18)⟩]) (.cond (.t 19) (.seq (.rg [⟨some 4, none, .mv (.k (.int .i64 0))⟩, ⟨some 5, none, .mv (.k (.int .i64 2))⟩]) .ret) .skip)) (.seq (.rg [⟨some 20, none, .mv (.t 0)⟩, ⟨some 21, none, .bin .sub .leaf (.t 20) (.k (.int .i64 1))⟩, ⟨some 22, none, .bin .mul .leaf (.k (.int .i64 12)) (.t 21)⟩, ⟨some 23, none, .mv (.t 1)⟩, ⟨some 24, none, .bin .add .leaf (.t 22) (.t 23)⟩, ⟨some 4, none, .mv (.t 24)⟩, ⟨some 5, none, .mv (.k (.int .i64 0))⟩]) .ret))⟩ := by kernel_rfl

theorem leap2 (y : Int) : Pure 82 [.int .i64 y] (.bool (leapB y)) := by
  intro S tk
  have key : 1 ≤ y → (y.tmod 4 = y % 4 ∧ y.tmod 100 = y % 100 ∧ y.tmod 400 = y % 400) := fun h => ⟨Int.tmod_eq_emod_of_nonneg (by omega), Int.tmod_eq_emod_of_nonneg (by omega), Int.tmod_eq_emod_of_nonneg (by omega)⟩
  refine ACalls.fgo c82 rfl fun hS => ?_
  repeat' first | with_reducible refine fzD_ite (fun q => ?_) (fun q => ?_) | ((try conv => whnf); first | refine bs_d (fun q => ?_) (fun q => ?_) | refine bs_n ?_ | refine bs_i (fun q => ?_) (fun q => ?_) | refine eqk rfl ?_ | refine ffin _ rfl rfl hS (Sub.refl _) rfl ⟨?_, rfl, rfl⟩)
  all_goals simp only [tupD, D.bool.injEq, leapB]
  all_goals symm
  all_goals first
    | exact decide_eq_false (by omega)
    | exact decide_eq_true (by have := key (by omega); omega)
    | exact decide_eq_false (by have := key (by omega); omega)
def longI (y m : Int) : Int := if m = 2 then (if leapB y = true then 29 else 28) else if m = 4 ∨ m = 6 ∨ m = 9 ∨ m = 11 then 30 else 31
theorem long (y m : Int) : Pure 67 [.int .i64 y, .int .i64 m] (.int .i64 (longI y m)) := by
  intro S tk
  have hl := leap2 y
  unfold longI
  cases hb : leapB y with
  | true =>
    rw [hb] at hl
    refine ACalls.fgo c67 rfl fun hS => ?_
    repeat' first | with_reducible refine fzD_ite (fun q => ?_) (fun q => ?_) | ((try conv => whnf); first | refine bs_d (fun q => ?_) (fun q => ?_) | refine bs_n ?_ | refine bs_i (fun q => ?_) (fun q => ?_) | refine ckz (hl) ?_ | refine cq (hl) ?_ | refine eqk rfl ?_ | refine ffin _ rfl rfl hS (Sub.refl _) rfl ⟨?_, rfl, rfl⟩)
    all_goals first
      | (rw [if_pos (by omega), if_pos rfl]; rfl)
      | (rw [if_neg (by omega), if_pos (by omega)]; rfl)
      | (rw [if_neg (by omega), if_neg (by omega)]; rfl)
  | false =>
    rw [hb] at hl
    refine ACalls.fgo c67 rfl fun hS => ?_
    repeat' first | with_reducible refine fzD_ite (fun q => ?_) (fun q => ?_) | ((try conv => whnf); first | refine bs_d (fun q => ?_) (fun q => ?_) | refine bs_n ?_ | refine bs_i (fun q => ?_) (fun q => ?_) | refine ckz (hl) ?_ | refine cq (hl) ?_ | refine eqk rfl ?_ | refine ffin _ rfl rfl hS (Sub.refl _) rfl ⟨?_, rfl, rfl⟩)
    all_goals first
      | (rw [if_pos (by omega), if_neg (by simp)]; rfl)
      | (rw [if_neg (by omega), if_pos (by omega)]; rfl)
      | (rw [if_neg (by omega), if_neg (by omega)]; rfl)
def yearI (y : Int) : Int := if leapB y = true then 366 else 365
theorem year (y : Int) : Pure 68 [.int .i64 y] (.int .i64 (yearI y)) := by
  intro S tk
  have hl := leap2 y
  unfold yearI
  cases hb : leapB y with
  | true =>
    rw [hb] at hl
    refine ACalls.fgo c68 rfl fun hS => ?_
    repeat' first | with_reducible refine fzD_ite (fun q => ?_) (fun q => ?_) | ((try conv => whnf); first | refine bs_d (fun q => ?_) (fun q => ?_) | refine bs_n ?_ | refine bs_i (fun q => ?_) (fun q => ?_) | refine ckz (hl) ?_ | refine cq (hl) ?_ | refine eqk rfl ?_ | refine ffin _ rfl rfl hS (Sub.refl _) rfl ⟨?_, rfl, rfl⟩)
    all_goals rfl
  | false =>
    rw [hb] at hl
    refine ACalls.fgo c68 rfl fun hS => ?_
    repeat' first | with_reducible refine fzD_ite (fun q => ?_) (fun q => ?_) | ((try conv => whnf); first | refine bs_d (fun q => ?_) (fun q => ?_) | refine bs_n ?_ | refine bs_i (fun q => ?_) (fun q => ?_) | refine ckz (hl) ?_ | refine cq (hl) ?_ | refine eqk rfl ?_ | refine ffin _ rfl rfl hS (Sub.refl _) rfl ⟨?_, rfl, rfl⟩)
    all_goals rfl
def yAcc : Nat → Int → Int → Int
  | 0, _, n => n
  | k + 1, i, n => yAcc k (i + 1) (n + yearI i)
def mAcc (y : Int) : Nat → Int → Int → Int
  | 0, _, n => n
  | k + 1, i, n => mAcc y k (i + 1) (n + longI y i)
def y0I (y : Int) : Int := y - (y - 1) % 400
def dayR (y m d : Int) : Int := mAcc y (m - 1).toNat 1 (yAcc (y - y0I y).toNat (y0I y) (d + (y - 1) / 400 * 146097))
theorem long_bd (y m : Int) : 28 ≤ longI y m ∧ longI y m ≤ 31 := by
  unfold longI
  split
  · split <;> omega
  · split <;> omega
theorem year_bd (y : Int) : 365 ≤ yearI y ∧ yearI y ≤ 366 := by
  unfold yearI; split <;> omega
structure DyS where
  i : Int
  n : Int
set_option maxHeartbeats 2000000 in
theorem dayD (y m d : Int) (hy : 1 ≤ y ∧ y ≤ 9999) (hm : 1 ≤ m ∧ m ≤ 12) (hd : 1 ≤ d ∧ d ≤ longI y m) : Pure 48 [.int .i64 y, .int .i64 m, .int .i64 d] (.tup [.int .i64 (dayR y m d), .int .i64 0]) := by
  intro S tk
  have hlo := long y m
  have hlb := long_bd y m
  have e1 : (y - 1).tdiv 400 = (y - 1) / 400 := Int.tdiv_eq_ediv_of_nonneg (by omega)
  have e2 : (y - 1).tmod 400 = (y - 1) % 400 := Int.tmod_eq_emod_of_nonneg (by omega)
  have w0 : IntKind.wrap .i64 (y - 1) = y - 1 := wi64_id (by unfold I64; omega)
  have hn0 : IntKind.wrap .i64 (d + IntKind.wrap .i64 (IntKind.wrap .i64 ((IntKind.wrap .i64 (y - 1)).tdiv 400) * 146097)) = d + (y - 1) / 400 * 146097 := by
    rw [w0, e1]; simp (disch := (unfold I64; omega)) only [wi64_id]
  have hi0 : IntKind.wrap .i64 (y - (IntKind.wrap .i64 (y - 1)).tmod 400) = y0I y := by
    rw [w0, e2]; exact wi64_id (by unfold I64; omega)
  refine ACalls.fgo c48 rfl fun hS => ?_
  repeat' first | with_reducible refine fzD_ite (fun q => ?_) (fun q => ?_) | ((try conv => whnf); first | refine bs_f (decide_eq_false (show ¬ y < 1 by omega)) ?_ | refine bs_f (decide_eq_false (show ¬ y > 9999 by omega)) ?_ | refine bs_f (decide_eq_false (show ¬ m < 1 by omega)) ?_ | refine bs_f (decide_eq_false (show ¬ m > 12 by omega)) ?_ | refine bs_f (decide_eq_false (show ¬ d < 1 by omega)) ?_ | refine bs_f (decide_eq_false (show ¬ d > longI y m by omega)) ?_ | refine bs_d (fun q => ?_) (fun q => ?_) | refine bs_n ?_ | refine bs_i (fun q => ?_) (fun q => ?_) | refine ckz (hlo) ?_ | refine cq (hlo) ?_ | refine eqk rfl ?_ | refine ffin _ rfl rfl hS (Sub.refl _) rfl ⟨?_, rfl, rfl⟩)
  conv => whnf
  refine floop (α := DyS) rfl rfl hS (fun s => (y0I y ≤ s.i ∧ s.i ≤ y) ∧ (0 ≤ s.n ∧ s.n ≤ 4000000 + 366 * (s.i - y0I y)) ∧ yAcc (y - s.i).toNat s.i s.n = yAcc (y - y0I y).toNat (y0I y) (d + (y - 1) / 400 * 146097)) (fun s => (y - s.i).toNat) (fun s => [(9, .d (.int .i64 s.i)), (8, .d (.int .i64 s.n)), (0, .d (.int .i64 y)), (1, .d (.int .i64 m))]) (fun _ => []) (fun _ => []) ⟨y0I y, d + (y - 1) / 400 * 146097⟩ ⟨by simp only [y0I]; omega, by simp only; omega, rfl⟩ (fstep_sub ⟨Sub.int hi0, Sub.int hn0, Sub.refl _, Sub.refl _, trivial⟩) ?_
  rintro ⟨i, n⟩ ⟨hi, hn, hr⟩
  simp only at hi hn hr ⊢
  have hy0 : y - 400 < y0I y := by unfold y0I; omega
  by_cases hlt : i < y
  · have hyr := year i
    have hyb := year_bd i
    obtain ⟨k, hk⟩ : ∃ k, (y - i).toNat = k + 1 := ⟨(y - i).toNat - 1, by omega⟩
    rw [hk, yAcc] at hr
    repeat' first | with_reducible refine fzD_ite (fun q => ?_) (fun q => ?_) | ((try conv => whnf); first | refine bs_t (decide_eq_true hlt) ?_ | refine bs_d (fun q => ?_) (fun q => ?_) | refine bs_n ?_ | refine bs_i (fun q => ?_) (fun q => ?_) | refine ckz (hyr) ?_ | refine cq (hyr) ?_ | refine eqk rfl ?_ | refine ffin _ rfl rfl hS (Sub.refl _) rfl ⟨?_, rfl, rfl⟩)
    conv => whnf
    exact fnext (α := DyS) ⟨i + 1, n + yearI i⟩ ⟨by simp only; omega, by simp only; omega, by simp only; rw [show (y - (i + 1)).toNat = k by omega]; exact hr⟩ (by simp only; omega) (fstep_sub ⟨Sub.int (wi64_id (by unfold I64; omega)), Sub.int (wi64_id (by unfold I64; omega)), Sub.refl _, Sub.refl _, trivial⟩)
  · obtain rfl : i = y := by omega
    rw [show (i - i).toNat = 0 by omega, yAcc] at hr
    have hres : dayR i m d = mAcc i (m - 1).toNat 1 n := by rw [dayR, ← hr]
    rw [hres]
    repeat' first | with_reducible refine fzD_ite (fun q => ?_) (fun q => ?_) | ((try conv => whnf); first | refine bs_f (decide_eq_false hlt) ?_ | refine bs_d (fun q => ?_) (fun q => ?_) | refine bs_n ?_ | refine bs_i (fun q => ?_) (fun q => ?_) | refine eqk rfl ?_ | refine ffin _ rfl rfl hS (Sub.refl _) rfl ⟨?_, rfl, rfl⟩)
    conv => whnf
    refine floop (α := DyS) rfl rfl hS (fun s => (1 ≤ s.i ∧ s.i ≤ m) ∧ (0 ≤ s.n ∧ s.n ≤ 4200000 + 31 * s.i) ∧ mAcc i (m - s.i).toNat s.i s.n = mAcc i (m - 1).toNat 1 n) (fun s => (m - s.i).toNat) (fun s => [(10, .d (.int .i64 s.i)), (8, .d (.int .i64 s.n)), (0, .d (.int .i64 i)), (1, .d (.int .i64 m))]) (fun _ => []) (fun _ => []) ⟨1, n⟩ ⟨by simp only; omega, by simp only; omega, rfl⟩ (fstep_sub ⟨Sub.refl _, Sub.refl _, Sub.refl _, Sub.refl _, trivial⟩) ?_
    rintro ⟨j, n2⟩ ⟨hj, hn2, hr2⟩
    simp only at hj hn2 hr2 ⊢
    by_cases hlj : j < m
    · have hlg := long i j
      have hlg2 := long_bd i j
      obtain ⟨k, hk⟩ : ∃ k, (m - j).toNat = k + 1 := ⟨(m - j).toNat - 1, by omega⟩
      rw [hk, mAcc] at hr2
      repeat' first | with_reducible refine fzD_ite (fun q => ?_) (fun q => ?_) | ((try conv => whnf); first | refine bs_t (decide_eq_true hlj) ?_ | refine bs_d (fun q => ?_) (fun q => ?_) | refine bs_n ?_ | refine bs_i (fun q => ?_) (fun q => ?_) | refine ckz (hlg) ?_ | refine cq (hlg) ?_ | refine eqk rfl ?_ | refine ffin _ rfl rfl hS (Sub.refl _) rfl ⟨?_, rfl, rfl⟩)
      conv => whnf
      exact fnext (α := DyS) ⟨j + 1, n2 + longI i j⟩ ⟨by simp only; omega, by simp only; omega, by simp only; rw [show (m - (j + 1)).toNat = k by omega]; exact hr2⟩ (by simp only; omega) (fstep_sub ⟨Sub.int (wi64_id (by unfold I64; omega)), Sub.int (wi64_id (by unfold I64; omega)), Sub.refl _, Sub.refl _, trivial⟩)
    · rw [show (m - j).toNat = 0 by omega, mAcc] at hr2
      rw [← hr2]
      repeat' first | with_reducible refine fzD_ite (fun q => ?_) (fun q => ?_) | ((try conv => whnf); first | refine bs_f (decide_eq_false hlj) ?_ | refine bs_d (fun q => ?_) (fun q => ?_) | refine bs_n ?_ | refine bs_i (fun q => ?_) (fun q => ?_) | refine eqk rfl ?_ | refine ffin _ rfl rfl hS (Sub.refl _) rfl ⟨?_, rfl, rfl⟩)
      all_goals rfl
theorem monthD (y m : Int) (hy : 1 ≤ y ∧ y ≤ 9999) (hm : 1 ≤ m ∧ m ≤ 12) : Pure 21 [.int .i64 y, .int .i64 m] (.tup [.int .i64 (12 * (y - 1) + m), .int .i64 0]) := by
  intro S tk
  refine ACalls.fgo c21 rfl fun hS => ?_
  repeat' first | with_reducible refine fzD_ite (fun q => ?_) (fun q => ?_) | ((try conv => whnf); first | refine bs_f (decide_eq_false (show ¬ y < 1 by omega)) ?_ | refine bs_f (decide_eq_false (show ¬ y > 9999 by omega)) ?_ | refine bs_f (decide_eq_false (show ¬ m < 1 by omega)) ?_ | refine bs_f (decide_eq_false (show ¬ m > 12 by omega)) ?_ | refine bs_d (fun q => ?_) (fun q => ?_) | refine bs_n ?_ | refine bs_i (fun q => ?_) (fun q => ?_) | refine eqk rfl ?_ | refine ffin _ rfl rfl hS (Sub.refl _) rfl ⟨?_, rfl, rfl⟩)
  refine congrArg (fun z => D.tup [.int .i64 z, .int .i64 0]) ?_
  simp (disch := (unfold I64; omega)) only [wi64_id]
theorem day_a : dayR 2024 1 5 = 738890 ∧ dayR 2024 1 31 = 738916 ∧ dayR 2024 2 1 = 738917 := by decide
theorem of_a : ofI 738890 = 24277 ∧ ofI 738916 = 24277 ∧ ofI 738917 = 24278 := by decide
end Go.KL.YtkojphmejddhiaaGreatDoor
namespace Go.KL.YtkojphmejddhiaaGreatDoor.J
open Go Go.KL Go.RowKit Go.Proofs Go.KL.YtkojphmejddhiaaGreatDoor
theorem c20 : cFun E0.P 20 = some ⟨53, [(4, none), (5, none)], .seq (.rg [⟨some 4, none, .mv (.k (.int .i64 0))⟩, ⟨some 5, none, .mv (.k (.int .i64 0))⟩]) (.seq (.seq (.rg [⟨some 13, none, .mv (.t 0)⟩, ⟨some 14, none, .call 33 [.t 13]⟩]) (.cond (.t 14) (.seq (.rg [⟨some 4, none, .mv (.k (.int .i64 0))⟩, ⟨some 5, none, .mv (.k (.int .i64 1))⟩]) .ret) .skip)) (.seq (.seq (.rg [⟨some 16, none, .mv (.t 0)⟩, ⟨some 17, none, .nilck (.t 16)⟩, ⟨some 18, none, .fa 0 (.t 17)⟩, ⟨some 19, none, .ld 1 false (.t 18)⟩, ⟨some 20, none, .mv (.t 1)⟩, ⟨some 21, none, .call 39 [.t 19, .t 20]⟩, ⟨some 15, none, .mv (.t 21)⟩, ⟨some 22, none, .ext 0 (.t 15)⟩, ⟨some 23, none, .ext 1 (.t 15)⟩, ⟨some 6, none, .alloc [.int .i64 0, .int .i64 0, .int .u8 0, .str ⟨#[]⟩, .bool false] 37⟩, ⟨none, none, .st 5 (.t 6) (.t 22)⟩, ⟨some 7, none, .mv (.t 23)⟩]) (.seq (.rg [⟨some 24, none, .mv (.t 7)⟩, ⟨some 25, none, .bin .neq .leaf (.t 24) (.k (.int .i64 0))⟩]) (.cond (.t 25) (.seq (.rg [⟨some 26, none, .mv (.t 7)⟩, ⟨some 4, none, .mv (.k (.int .i64 0))⟩, ⟨some 5, none, .mv (.t 26)⟩]) .ret) .skip))) (.seq (.rg [⟨some 8, none, .mv (.k .nilsl)⟩]) (.seq (.seq (.rg [⟨some 27, none, .mv (.t 0)⟩, ⟨some 28, none, .nilck (.t 27)⟩, ⟨some 29, none, .fa 0 (.t 28)⟩, ⟨some 30, none, .ld 1 false (.t 29)⟩, ⟨some 31, none, .mv (.t 1)⟩, ⟨some 32, none, .call 40 [.t 30, .t 31]⟩, ⟨some 33, none, .len 1 (.t 32)⟩, ⟨some 34, none, .mv (.k (.int .i64 0))⟩]) (.block 0 (.loop (.seq (.rg [⟨some 35, none, .bin .lss .leaf (.t 34) (.t 33)⟩]) (.seq (.cond (.t 35) .skip (.exit 0)) (.seq (.block 1 (.seq (.rg [⟨some 36, none, .ia 1 (.t 32) (.t 34)⟩, ⟨some 37, none, .ld 1 false (.t 36)⟩, ⟨some 10, none, .mv (.t 37)⟩]) (.rg [⟨some 38, none, .mv (.t 8)⟩, ⟨some 39, none, .mv (.t 0)⟩, ⟨some 40, none, .mv (.t 10)⟩, ⟨some 41, none, .call 49 [.t 39, .t 40, .k (.int .i64 0), .k (.int .u64 0)]⟩, ⟨some 42, none, .buildS 1 1 [.int .i64 0] [(0, .t 41)] 2⟩, ⟨some 43, none, .app 102 2 1 8 [.int .i64 0] (.t 38) (.t 42)⟩, ⟨some 8, none, .mv (.t 43)⟩]))) (.rg [⟨some 44, none, .bin .add .leaf (.t 34) (.k (.int .i64 1))⟩, ⟨some 34, none, .mv (.t 44)⟩]))))))) (.seq (.rg [⟨some 46, none, .mv (.t 8)⟩, ⟨some 47, none, .call 50 [.t 46]⟩, ⟨some 45, none, .mv (.t 47)⟩, ⟨some 48, none, .ext 0 (.t 45)⟩, ⟨some 49, none, .ext 1 (.t 45)⟩, ⟨some 11, none, .mv (.t 48)⟩, ⟨some 12, none, .mv (.t 49)⟩]) (.seq (.seq (.rg [⟨some 50, none, .mv (.t 12)⟩, ⟨some 51, none, .un .not (.t 50)⟩]) (.cond (.t 51) (.seq (.rg [⟨some 4, none, .mv (.k (.int .i64 0))⟩, ⟨some 5, none, .mv (.k (.int .i64 211))⟩]) .ret) .skip)) (.seq (.rg [⟨some 52, none, .mv (.t 11)⟩, ⟨some 4, none, .mv (.t 52)⟩, ⟨some 5, none, .mv (.k (.int .i64 0))⟩]) .ret)))))))⟩ := by kernel_rfl
theorem c19 : cFun E0.P 19 = some ⟨17, [(6, none)], .seq (.rg [⟨some 6, none, .mv (.k (.int .i64 0))⟩]) (.seq (.rg [⟨some 10, none, .mv (.t 0)⟩, ⟨some 11, none, .mv (.t 1)⟩, ⟨some 12, none, .mv (.t 2)⟩, ⟨some 13, none, .call 48 [.t 10, .t 11, .t 12]⟩, ⟨some 9, none, .mv (.t 13)⟩, ⟨some 14, none, .ext 0 (.t 9)⟩, ⟨some 15, none, .ext 1 (.t 9)⟩, ⟨some 7, none, .mv (.t 14)⟩, ⟨some 8, none, .mv (.t 15)⟩]) (.seq (.rg [⟨some 16, none, .mv (.t 7)⟩, ⟨some 6, none, .mv (.t 16)⟩]) .ret))⟩ := by kernel_rfl

theorem day_r (y m d : Int) (hy : 1 ≤ y ∧ y ≤ 9999) (hm : 1 ≤ m ∧ m ≤ 12) (hd : 1 ≤ d ∧ d ≤ longI y m) : Pure 19 [.int .i64 y, .int .i64 m, .int .i64 d] (.int .i64 (dayR y m d)) := by
  intro S tk
  have h := dayD y m d hy hm hd
  refine ACalls.fgo c19 rfl fun hS => ?_
  repeat' first | with_reducible refine fzD_ite (fun q => ?_) (fun q => ?_) | ((try conv => whnf); first | refine bs_d (fun q => ?_) (fun q => ?_) | refine bs_n ?_ | refine bs_i (fun q => ?_) (fun q => ?_) | refine ckz (h) ?_ | refine cq (h) ?_ | refine eqk rfl ?_ | refine ffin _ rfl rfl hS (Sub.refl _) rfl ⟨?_, rfl, rfl⟩)
  all_goals rfl
def undV (ql : AcL) (f : Slot → Option Int) (a : Int) : List Int := (undL ql a ql).map (ownV f)
def balS (ql : AcL) (f : Slot → Option Int) (a : Int) : D :=
  if (look ql a).isSome = true then (if -9223372036854775808 ≤ (undV ql f a).sum ∧ (undV ql f a).sum < 9223372036854775808 then .tup [.int .i64 (undV ql f a).sum, .int .i64 0] else .tup [.int .i64 0, .int .i64 211]) else .tup [.int .i64 0, .int .i64 7]
section
variable {X : List O} {tk : Tks} {lo bid cid kid mid : Nat} {ql : AcL} {f : Slot → Option Int} {E : List Ent} {closed : Int}
set_option maxHeartbeats 1000000 in
theorem balance_b (h : BkR X lo bid cid kid mid ql f E closed) (a : Int) : ACalls E0 20 [.po bid 0, .int .i64 a] X tk (fun r S' tk' => r = balS ql f a ∧ S' = X ∧ tk' = tk) := by
  obtain ⟨vid, ety, hb, -⟩ := h.b
  obtain ⟨oc, hk, hch⟩ := h.k
  obtain ⟨om, hm, hf⟩ := h.m
  have hbl := (List.getElem?_eq_some_iff.1 hb).1
  have hget : ∀ (J : List O) (tk : Tks), ACalls E0 39 [.po cid 0, .int .i64 a] (X ++ J) tk (fun r S' tk' => r = getF (look ql) a ∧ S' = X ++ J ∧ tk' = tk) := fun J tk => get_c hch (at_old h.c) (at_old hk) a
  unfold balS
  cases hx : look ql a with
  | none =>
    rw [if_neg (by simp)]
    rw [show getF (look ql) a = .tup [.agg noAc.cs, .int .i64 7] by rw [getF, hx]; rfl] at hget
    refine ACalls.fgo c20 rfl fun hS => ?_
    repeat' first | with_reducible refine fzD_ite (fun q => ?_) (fun q => ?_) | ((try conv => whnf); first | refine bs_d (fun q => ?_) (fun q => ?_) | refine bs_n ?_ | refine bs_i (fun q => ?_) (fun q => ?_) | refine ckA rfl rfl (none_b (at_old hb)) ?_ | refine pK_i (ldO_old hb rfl) ?_ | refine ckA rfl rfl (hget _ _) ?_ | refine eqk rfl ?_ | refine ffin _ rfl rfl hS (Sub.refl _) rfl ⟨?_, rfl, rfl⟩)
    all_goals rfl
  | some ac =>
    rw [if_pos (show (some ac).isSome = true from rfl)]
    rw [show getF (look ql) a = .tup [.agg ac.cs, .int .i64 0] by rw [getF, hx]; rfl] at hget
    have hund : ∀ (J : List O) (tk : Tks), ACalls E0 40 [.po cid 0, .int .i64 a] (X ++ J) tk (fun r S' tk' => r = .sl (i64s (undL ql a ql)) ∧ S' = X ++ J ∧ tk' = tk) := fun J tk => under_c hch (at_old h.c) (at_old hk) h.ok.keys (by rw [List.length_map]; exact h.lq) a (h.ok.und h.lq a)
    obtain ⟨U, hU⟩ : ∃ U, U = undL ql a ql := ⟨_, rfl⟩
    have hUl : U.length < 1000000 := by rw [hU, undL, List.length_map]; exact Nat.lt_of_le_of_lt (List.length_filter_le ..) h.lq
    unfold undV
    rw [← hU] at hund ⊢
    have hlU := i64s_len U
    have hsum := Sum (U.map (ownV f)) (by rw [List.length_map]; omega) (fun n hn => by obtain ⟨c, _, rfl⟩ := List.mem_map.1 hn; exact h.I _)
    refine ACalls.fgo c20 rfl fun hS => ?_
    repeat' first | with_reducible refine fzD_ite (fun q => ?_) (fun q => ?_) | ((try conv => whnf); first | refine bs_d (fun q => ?_) (fun q => ?_) | refine bs_n ?_ | refine bs_i (fun q => ?_) (fun q => ?_) | refine ckA rfl rfl (none_b (at_old hb)) ?_ | refine pK_i (ldO_old hb rfl) ?_ | refine ckA rfl rfl (hget _ _) ?_ | refine ckA rfl rfl (hund _ _) ?_ | refine eqk rfl ?_ | refine ffin _ rfl rfl hS (Sub.refl _) rfl ⟨?_, rfl, rfl⟩)
    conv => whnf
    refine floop (α := Nat) rfl rfl hS (fun i => i ≤ U.length) (fun i => U.length - i) (fun i => [(34, .d (.int .i64 i)), (33, .d (.int .i64 U.length)), (32, .d (.sl (i64s U))), (0, .d (.po bid 0)), (8, .d (.gsl (i64s ((U.take i).map (ownV f))) (tk.length + 0)))]) (fun _ => [.arr ac.cs]) (fun i => [((i64s ((U.take i).map (ownV f))).length, 2, 1)]) 0 (Nat.zero_le _) (fstep_tok 2 1 (t := 8) (.inl rfl) ⟨Sub.refl _, Sub.int (by rw [hlU]), Sub.refl _, Sub.refl _, Sub.refl _, trivial⟩) ?_
    intro i hi
    by_cases hlt : i < U.length
    · have hgl : i64s ((U.take i).map (ownV f)) ++ [[.int .i64 (ownV f U[i]!)]] = i64s ((U.take (i + 1)).map (ownV f)) := by rw [take_snA hlt]; simp [i64s]
      have hix : iaD 1 (.sl (i64s U)) (.int .i64 (i : Int)) = some (.pe [.int .i64 U[i]!] 0) := iaD_i64s (by omega) (by rw [Int.toNat_natCast, List.getElem?_eq_getElem hlt, getElem!_pos U i hlt])
      have hs2 : ∀ (J : List O) (tk : Tks), ACalls E0 49 [.po bid 0, .int .i64 U[i]!, .int .i64 0, .int .u64 0] (X ++ J) tk (fun r S' tk' => r = .int .i64 (ownV f U[i]!) ∧ S' = X ++ J ∧ tk' = tk) := fun J tk => sum_b (at_old hb) (at_old hm) hf U[i]! 0 0
      repeat' first | with_reducible refine fzD_ite (fun q => ?_) (fun q => ?_) | ((try conv => whnf); first | refine bs_t (decide_eq_true (by omega)) ?_ | refine bs_d (fun q => ?_) (fun q => ?_) | refine bs_n ?_ | refine bs_i (fun q => ?_) (fun q => ?_) | refine pK_i hix ?_ | refine ckA rfl rfl (hs2 _ _) ?_ | (refine gk_app (t := 0) (src := [[.int .i64 (ownV f U[i]!)]]) rfl rfl (by rfl) (by rfl) (by rfl) (by simp) (by rw [i64s_len, List.length_map, List.length_take]; simp [maxLen]; omega) ?_; rw [hgl]) | refine eqk rfl ?_ | refine ffin _ rfl rfl hS (Sub.refl _) rfl ⟨?_, rfl, rfl⟩)
      conv => whnf
      exact fnext (α := Nat) (i + 1) (by omega) (by omega) (fstep_K rfl ⟨Sub.int (by first | rfl | omega | (refine Int.sub_eq_zero.mp ?_; simp (disch := ((try unfold I64); omega)) only [wi64_id, td]; omega)), Sub.refl _, Sub.refl _, Sub.refl _, Sub.refl _, trivial⟩)
    · obtain rfl : i = U.length := by omega
      rw [List.take_length]
      by_cases hfit : -9223372036854775808 ≤ (U.map (ownV f)).sum ∧ (U.map (ownV f)).sum < 9223372036854775808
      · rw [sumS, if_pos hfit] at hsum
        rw [if_pos hfit]
        repeat' first | with_reducible refine fzD_ite (fun q => ?_) (fun q => ?_) | ((try conv => whnf); first | refine bs_f (decide_eq_false (by omega)) ?_ | refine bs_d (fun q => ?_) (fun q => ?_) | refine bs_n ?_ | refine bs_i (fun q => ?_) (fun q => ?_) | refine ckS rfl rfl hsum (.cons (Sub.rd rfl) .nil) ?_ | refine eqk rfl ?_ | refine ffin _ rfl rfl hS (Sub.refl _) rfl ⟨?_, rfl, rfl⟩)
        all_goals rfl
      · rw [sumS, if_neg hfit] at hsum
        rw [if_neg hfit]
        repeat' first | with_reducible refine fzD_ite (fun q => ?_) (fun q => ?_) | ((try conv => whnf); first | refine bs_f (decide_eq_false (by omega)) ?_ | refine bs_d (fun q => ?_) (fun q => ?_) | refine bs_n ?_ | refine bs_i (fun q => ?_) (fun q => ?_) | refine ckS rfl rfl hsum (.cons (Sub.rd rfl) .nil) ?_ | refine eqk rfl ?_ | refine ffin _ rfl rfl hS (Sub.refl _) rfl ⟨?_, rfl, rfl⟩)
        all_goals rfl
end
theorem ckBk {E : Env} {n0 m0 : Nat} {S J : List O} {T TK : Tks} {f : FuncId} {ds ds' : List D} {K : FD → List O → List O → Tks → Tks → Prop} {Q : D → List O → Prop} (hn : S.length = n0) (hm : T.length = m0)
    (h : ACalls E f ds' (S ++ J) (T ++ TK) (fun r X' tk' => Q r X' ∧ ((∀ id, id < n0 → X'[id]? = (S ++ J)[id]?) ∧ n0 ≤ X'.length) ∧ tk' = T ++ TK)) (hs : SubL ds ds')
    (hk : ∀ r J', Q r (S ++ J') → fzD r fun r => K (.d r) S J' T TK) : CK E n0 m0 f ds S J T TK K := by
  refine ckG (h.sub hs) ?_
  rintro r X' tk' ⟨hQ, ⟨h1, h2⟩, rfl⟩
  have hX : X' = S ++ X'.drop n0 := by
    refine List.ext_getElem? fun i => ?_
    by_cases hi : i < n0
    · rw [h1 i hi, List.getElem?_append_left (by omega), List.getElem?_append_left (by omega)]
    · rw [List.getElem?_append_right (by omega), List.getElem?_drop, hn, show n0 + (i - n0) = i by omega]
  rw [hX] at hQ
  exact ⟨S, X'.drop n0, T, TK, hX, rfl, hn, hm, hk _ _ hQ⟩
section
variable {X : List O} {tk : Tks} {lo bid cid kid mid : Nat} {ql : AcL} {f : Slot → Option Int} {E : List Ent} {closed : Int}
theorem postK (h : BkR X lo bid cid kid mid ql f E closed) (e : Ent) (hR : e.R) (h1 : onN ql e = 0) (h2 : ¬ ofI e.day ≤ closed) (h3 : ∀ s ∈ tts (adL e), okS (adL e) f noneF s) (hE : E.length < 1000000) :
    ACalls E0 10 [.po bid 0, e.d] X tk (fun r X' tk' => (r = .tup [.int .u64 ((E.length + 1 : Nat) : Int), .int .i64 0] ∧ BkR X' lo bid cid kid mid ql (postF f e) (E ++ [e]) closed ∧ Keeps lo bid mid X X') ∧ ((∀ id, id < lo → X'[id]? = X[id]?) ∧ lo ≤ X'.length) ∧ tk' = tk) := by
  refine (post_ok h e hR h1 h2 h3 hE).mono ?_
  rintro r X' tk' ⟨h4, ⟨h5, h6⟩, h7⟩
  obtain ⟨vid, ety, hb, -⟩ := h.b
  have hbl := (List.getElem?_eq_some_iff.1 hb).1
  exact ⟨⟨h4, h5, h6⟩, ⟨h6.lo, by have := h6.len; have := h.lo.1; omega⟩, h7⟩
theorem bk_close (h : BkR X lo bid cid kid mid ql f E closed) (month : Int) : ∃ vid, X[bid]? = some (.arr [.po cid 0, entV vid E.length, .map mid, .int .i64 closed]) ∧ BkR (X.set bid (.arr [.po cid 0, entV vid E.length, .map mid, .int .i64 month])) lo bid cid kid mid ql f E month := by
  obtain ⟨vid, ety, hb, hv⟩ := h.b
  obtain ⟨oc, hk, hch⟩ := h.k
  obtain ⟨om, hm, hf⟩ := h.m
  have hbl := (List.getElem?_eq_some_iff.1 hb).1
  have hbm : bid ≠ mid := fun hh => by rw [← hh, hb] at hm; exact (nw_ne hf).1 _ (Option.some.inj hm).symm
  have hbc : bid ≠ cid := fun hh => by rw [hh, h.c] at hb; have := Option.some.inj hb; simp at this
  have hbk : bid ≠ kid := fun hh => by rw [← hh, hb] at hk; exact (ch_ne hch).1 _ (Option.some.inj hk).symm
  refine ⟨vid, hb, ⟨⟨vid, ety, List.getElem?_set_self hbl, fun hE => ?_⟩, by rw [List.getElem?_set_ne hbc]; exact h.c, ⟨oc, by rw [List.getElem?_set_ne hbk]; exact hk, hch⟩, ⟨om, by rw [List.getElem?_set_ne hbm]; exact hm, hf⟩, h.ok, h.lq, h.lo, h.I⟩⟩
  obtain ⟨v1, v2, v3⟩ := hv hE
  have hvb : bid ≠ vid := fun hh => by rw [hh, v1] at hb; cases hb
  exact ⟨by rw [List.getElem?_set_ne hvb]; exact v1, v2, v3⟩
theorem closeK (h : BkR X lo bid cid kid mid ql f E closed) (month : Int) : ACalls E0 12 [.po bid 0, .int .i64 month] X tk (fun r X' tk' => (r = .int .i64 (closeN closed month) ∧ BkR X' lo bid cid kid mid ql f E (if closeN closed month = 0 then month else closed)) ∧ ((∀ id, id < lo → X'[id]? = X[id]?) ∧ lo ≤ X'.length) ∧ tk' = tk) := by
  obtain ⟨vid, hb, hB⟩ := bk_close h month
  have hbl := (List.getElem?_eq_some_iff.1 hb).1
  have hlo := h.lo.1
  refine (close_b hb month).mono ?_
  rintro r X' tk' ⟨rfl, rfl, rfl⟩
  by_cases hc : closeN closed month = 0
  · rw [if_pos hc, if_pos hc]
    exact ⟨⟨rfl, hB⟩, ⟨fun id hi => List.getElem?_set_ne (by omega), by rw [List.length_set]; omega⟩, rfl⟩
  · rw [if_neg hc, if_neg hc]
    exact ⟨⟨rfl, h⟩, ⟨fun id hi => rfl, by omega⟩, rfl⟩
theorem bk_new {S : List O} {o : O} (hch : Ch (look ql) o) (hok : OkQ ql) (hl : ql.length < 1000000) :
    BkR (S ++ [o, .arr [.map S.length], .map kSl (MG.entKv sD []) 0, .arr [.po (S.length + 1) 0, .nilsl, .map (S.length + 2), .int .i64 0]]) S.length (S.length + 3) (S.length + 1) S.length (S.length + 2) ql noneF [] 0 :=
  ⟨⟨0, 0, at_own (k := 3) rfl rfl, fun h => absurd rfl h⟩, at_own (k := 1) rfl rfl, ⟨o, at_own (k := 0) rfl rfl, hch⟩, ⟨_, at_own (k := 2) rfl rfl, nw_empty⟩, hok, hl, ⟨by omega, by omega, by omega, by omega⟩, fun s => by unfold noneF I64; simp⟩
end
instance (L : List Ln) (f g : Slot → Option Int) (s : Slot) : Decidable (okS L f g s) := by unfold okS; infer_instance
def e1 : Ent := twoE 738890 100
def e3 : Ent := twoE 738917 1
def f1 : Slot → Option Int := postF noneF e1
def f2 : Slot → Option Int := postF f1 e3
theorem stdB_ok : OkQ stdB ∧ stdB.length < 1000000 := ⟨std_ok0.1, by have := std_ok0.2; unfold stdB; omega⟩
theorem e1_on : onN stdB e1 = 0 := by decide
theorem e3_on : onN stdB e3 = 0 := by decide
theorem eB_on : onN stdB (twoE 738916 1) = 0 := by decide
theorem e1_ok : ∀ s ∈ tts (adL e1), okS (adL e1) noneF noneF s := by decide
theorem e3_ok : ∀ s ∈ tts (adL e3), okS (adL e3) f1 noneF s := by decide
theorem f1_at : (f1 (1200, 1, 7)).getD 0 = 100 ∧ (f1 (1200, 1, 8)).getD 0 = 0 ∧ (f1 (2100, 3, 24277)).getD 0 = -100 := by decide
theorem f1_tri : triL stdB f1 = [⟨1200, 100, 0⟩, ⟨2100, 0, 100⟩] := by decide
theorem f1_bal : balS stdB f1 1200 = .tup [.int .i64 100, .int .i64 0] := by
  have h1 : (look stdB 1200).isSome = true := by decide
  have h2 : (undV stdB f1 1200).sum = 100 := by decide
  rw [balS, if_pos h1, h2, if_pos (by decide)]
theorem c5 : cFun E0.P 5 = some ⟨109, [(0, none)], .seq (.rg [⟨some 0, none, .mv (.k (.bool false))⟩]) (.seq (.rg [⟨some 14, none, .call 6 []⟩, ⟨some 15, none, .call 7 [.t 14]⟩, ⟨some 1, none, .mv (.t 15)⟩]) (.seq (.rg [⟨some 17, none, .mv (.t 1)⟩, ⟨some 18, none, .call 19 [.k (.int .i64 2024), .k (.int .i64 1), .k (.int .i64 5)]⟩, ⟨some 19, none, .call 18 [.t 18, .k (.int .i64 100)]⟩, ⟨some 20, none, .call 10 [.t 17, .t 19]⟩, ⟨some 16, none, .mv (.t 20)⟩, ⟨some 21, none, .ext 0 (.t 16)⟩, ⟨some 22, none, .ext 1 (.t 16)⟩, ⟨some 2, none, .mv (.t 21)⟩, ⟨some 3, none, .mv (.t 22)⟩]) (.seq (.rg [⟨some 24, none, .mv (.t 1)⟩, ⟨some 25, none, .call 20 [.t 24, .k (.int .i64 1200)]⟩, ⟨some 23, none, .mv (.t 25)⟩, ⟨some 26, none, .ext 0 (.t 23)⟩, ⟨some 27, none, .ext 1 (.t 23)⟩, ⟨some 4, none, .mv (.t 26)⟩, ⟨some 5, none, .mv (.t 27)⟩]) (.seq (.rg [⟨some 29, none, .call 21 [.k (.int .i64 2024), .k (.int .i64 1)]⟩, ⟨some 28, none, .mv (.t 29)⟩, ⟨some 30, none, .ext 0 (.t 28)⟩, ⟨some 31, none, .ext 1 (.t 28)⟩, ⟨some 6, none, .mv (.t 30)⟩, ⟨some 7, none, .mv (.t 31)⟩]) (.seq (.seq (.rg [⟨some 32, none, .mv (.t 2)⟩, ⟨some 33, none, .bin .neq .leaf (.t 32) (.k (.int .u64 1))⟩, ⟨some 34, none, .mv (.t 33)⟩, ⟨some 35, some (34, false), .mv (.t 3)⟩, ⟨some 36, some (34, false), .bin .neq .leaf (.t 35) (.k (.int .i64 0))⟩, ⟨some 37, none, .pick (.t 34) (.k (.bool true)) (.t 36)⟩, ⟨some 38, none, .mv (.t 37)⟩, ⟨some 39, some (38, false), .mv (.t 4)⟩, ⟨some 40, some (38, false), .bin .neq .leaf (.t 39) (.k (.int .i64 100))⟩, ⟨some 41, none, .pick (.t 38) (.k (.bool true)) (.t 40)⟩, ⟨some 42, none, .mv (.t 41)⟩, ⟨some 43, some (42, false), .mv (.t 5)⟩, ⟨some 44, some (42, false), .bin .neq .leaf (.t 43) (.k (.int .i64 0))⟩, ⟨some 45, none, .pick (.t 42) (.k (.bool true)) (.t 44)⟩, ⟨some 46, none, .mv (.t 45)⟩, ⟨some 47, some (46, false), .mv (.t 1)⟩, ⟨some 48, some (46, false), .call 22 [.t 47, .k (.int .i64 1200), .k (.int .u64 7)]⟩, ⟨some 49, some (46, false), .bin .neq .leaf (.t 48) (.k (.int .i64 100))⟩, ⟨some 50, none, .pick (.t 46) (.k (.bool true)) (.t 49)⟩, ⟨some 51, none, .mv (.t 50)⟩, ⟨some 52, some (51, false), .mv (.t 1)⟩, ⟨some 53, some (51, false), .call 22 [.t 52, .k (.int .i64 1200), .k (.int .u64 8)]⟩, ⟨some 54, some (51, false), .bin .neq .leaf (.t 53) (.k (.int .i64 0))⟩, ⟨some 55, none, .pick (.t 51) (.k (.bool true)) (.t 54)⟩, ⟨some 56, none, .mv (.t 55)⟩, ⟨some 57, some (56, false), .mv (.t 1)⟩, ⟨some 58, some (56, false), .mv (.t 6)⟩, ⟨some 59, some (56, false), .call 23 [.t 57, .k (.int .i64 2100), .t 58]⟩, ⟨some 60, some (56, false), .bin .neq .leaf (.t 59) (.k (.int .i64 (-100)))⟩, ⟨some 61, none, .pick (.t 56) (.k (.bool true)) (.t 60)⟩]) (.cond (.t 61) (.seq (.rg [⟨some 0, none, .mv (.k (.bool false))⟩]) .ret) .skip)) (.seq (.rg [⟨some 62, none, .mv (.t 1)⟩, ⟨some 63, none, .call 24 [.t 62]⟩, ⟨some 8, none, .mv (.t 63)⟩]) (.seq (.rg [⟨some 64, none, .mv (.t 1)⟩, ⟨some 65, none, .mv (.t 6)⟩, ⟨some 66, none, .call 12 [.t 64, .t 65]⟩, ⟨some 9, none, .mv (.t 66)⟩]) (.seq (.rg [⟨some 68, none, .mv (.t 1)⟩, ⟨some 69, none, .call 19 [.k (.int .i64 2024), .k (.int .i64 1), .k (.int .i64 31)]⟩, ⟨some 70, none, .call 18 [.t 69, .k (.int .i64 1)]⟩, ⟨some 71, none, .call 10 [.t 68, .t 70]⟩, ⟨some 67, none, .mv (.t 71)⟩, ⟨some 72, none, .ext 0 (.t 67)⟩, ⟨some 73, none, .ext 1 (.t 67)⟩, ⟨some 10, none, .mv (.t 72)⟩, ⟨some 11, none, .mv (.t 73)⟩]) (.seq (.rg [⟨some 75, none, .mv (.t 1)⟩, ⟨some 76, none, .call 19 [.k (.int .i64 2024), .k (.int .i64 2), .k (.int .i64 1)]⟩, ⟨some 77, none, .call 18 [.t 76, .k (.int .i64 1)]⟩, ⟨some 78, none, .call 10 [.t 75, .t 77]⟩, ⟨some 74, none, .mv (.t 78)⟩, ⟨some 79, none, .ext 0 (.t 74)⟩, ⟨some 80, none, .ext 1 (.t 74)⟩, ⟨some 12, none, .mv (.t 79)⟩, ⟨some 13, none, .mv (.t 80)⟩]) (.seq (.rg [⟨some 81, none, .mv (.t 8)⟩, ⟨some 82, none, .build [.int .i64 0, .int .i64 0, .int .i64 0] [(0, 1, .k (.int .i64 1200)), (1, 1, .k (.int .i64 100))]⟩, ⟨some 83, none, .build [.int .i64 0, .int .i64 0, .int .i64 0] [(0, 1, .k (.int .i64 2100)), (2, 1, .k (.int .i64 100))]⟩, ⟨some 84, none, .buildS 2 3 [.int .i64 0, .int .i64 0, .int .i64 0] [(0, .t 82), (1, .t 83)] 66⟩, ⟨some 85, none, .call 25 [.t 81, .t 84]⟩, ⟨some 86, none, .mv (.t 85)⟩, ⟨some 87, some (86, true), .mv (.t 9)⟩, ⟨some 88, some (86, true), .bin .eql .leaf (.t 87) (.k (.int .i64 0))⟩, ⟨some 89, none, .pick (.t 86) (.t 88) (.k (.bool false))⟩, ⟨some 90, none, .mv (.t 89)⟩, ⟨some 91, some (90, true), .mv (.t 11)⟩, ⟨some 92, some (90, true), .bin .eql .leaf (.t 91) (.k (.int .i64 210))⟩, ⟨some 93, none, .pick (.t 90) (.t 92) (.k (.bool false))⟩, ⟨some 94, none, .mv (.t 93)⟩, ⟨some 95, some (94, true), .mv (.t 12)⟩, ⟨some 96, some (94, true), .bin .eql .leaf (.t 95) (.k (.int .u64 2))⟩, ⟨some 97, none, .pick (.t 94) (.t 96) (.k (.bool false))⟩, ⟨some 98, none, .mv (.t 97)⟩, ⟨some 99, some (98, true), .mv (.t 13)⟩, ⟨some 100, some (98, true), .bin .eql .leaf (.t 99) (.k (.int .i64 0))⟩, ⟨some 101, none, .pick (.t 98) (.t 100) (.k (.bool false))⟩, ⟨some 102, none, .mv (.t 101)⟩, ⟨some 103, some (102, true), .mv (.t 1)⟩, ⟨some 104, some (102, true), .mv (.t 6)⟩, ⟨some 105, some (102, true), .bin .sub .leaf (.t 104) (.k (.int .i64 1))⟩, ⟨some 106, some (102, true), .call 12 [.t 103, .t 105]⟩, ⟨some 107, some (102, true), .bin .eql .leaf (.t 106) (.k (.int .i64 9))⟩, ⟨some 108, none, .pick (.t 102) (.t 107) (.k (.bool false))⟩, ⟨some 0, none, .mv (.t 108)⟩]) .ret))))))))))⟩ := by kernel_rfl

theorem std_atB {n : Nat} {S : List O} {tk : Tks} (hn : S.length = n) :
    ACalls E0 6 [] S tk (fun r S' tk' => ∃ o, (r = .po (n + 1) 0 ∧ Ch (look stdB) o) ∧ S' = S ++ [o, .arr [.map n]] ∧ tk' = tk) := by subst hn; exact standard_b S tk
theorem new_at {n i : Nat} {X : List O} {tk : Tks} (hn : X.length = n) : ACalls E0 7 [.po i 0] X tk (fun r S' tk' => r = .po (n + 1) 0 ∧ S' = X ++ [.map kSl (MG.entKv sD []) 0, .arr [.po i 0, .nilsl, .map n, .int .i64 0]] ∧ tk' = tk) := by subst hn; exact new_b _ (.inr ⟨i, rfl⟩)
section
variable {X : List O} {tk : Tks} {lo bid cid kid mid : Nat} {ql : AcL} {f : Slot → Option Int} {E : List Ent} {closed : Int}
theorem ofK (h : BkR X lo bid cid kid mid ql f E closed) (a i : Int) {v : Int} (hv : (f (a, 1, i)).getD 0 = v) : ACalls E0 22 [.po bid 0, .int .i64 a, .int .u64 i] X tk (fun r S' tk' => r = .int .i64 v ∧ S' = X ∧ tk' = tk) := by
  subst hv
  obtain ⟨vid, ety, hb, -⟩ := h.b
  obtain ⟨om, hm, hf⟩ := h.m
  exact of_b hb hm hf a i
theorem byK (h : BkR X lo bid cid kid mid ql f E closed) (a i : Int) {v : Int} (hv : (f (a, 2, i)).getD 0 = v) : ACalls E0 46 [.po bid 0, .int .i64 a, .int .u64 i] X tk (fun r S' tk' => r = .int .i64 v ∧ S' = X ∧ tk' = tk) := by
  subst hv
  obtain ⟨vid, ety, hb, -⟩ := h.b
  obtain ⟨om, hm, hf⟩ := h.m
  exact by_b hb hm hf a i
theorem inK (h : BkR X lo bid cid kid mid ql f E closed) (a i : Int) (hi : I64 i) {v : Int} (hv : inV f a i = v) : ACalls E0 23 [.po bid 0, .int .i64 a, .int .i64 i] X tk (fun r S' tk' => r = .int .i64 v ∧ S' = X ∧ tk' = tk) := by
  subst hv
  obtain ⟨vid, ety, hb, -⟩ := h.b
  obtain ⟨om, hm, hf⟩ := h.m
  exact in_b hb hm hf a i hi
theorem closedK (h : BkR X lo bid cid kid mid ql f E closed) : ACalls E0 42 [.po bid 0] X tk (fun r S' tk' => r = .int .i64 closed ∧ S' = X ∧ tk' = tk) := by
  obtain ⟨vid, ety, hb, -⟩ := h.b
  exact closed_b hb
theorem lenK (h : BkR X lo bid cid kid mid ql f E closed) : ACalls E0 43 [.po bid 0] X tk (fun r S' tk' => r = .int .i64 (E.length : Nat) ∧ S' = X ∧ tk' = tk) := by
  obtain ⟨vid, ety, hb, -⟩ := h.b
  exact len_b hb
theorem balK (h : BkR X lo bid cid kid mid ql f E closed) (a : Int) {d : D} (hd : balS ql f a = d) : ACalls E0 20 [.po bid 0, .int .i64 a] X tk (fun r S' tk' => r = d ∧ S' = X ∧ tk' = tk) := by subst hd; exact balance_b h a
theorem triK (h : BkR X lo bid cid kid mid ql f E closed) {l : List Ba} (hl : triL ql f = l) : ACalls E0 24 [.po bid 0] X tk (fun r S' tk' => r = .sl (bas l) ∧ S' = X ∧ tk' = tk) := by subst hl; exact trial_b h
theorem postErrK (h : BkR X lo bid cid kid mid ql f E closed) (e : Ent) (hR : e.R) (hbad : onN ql e ≠ 0 ∨ ofI e.day ≤ closed) {n : Int} (hn : (if onN ql e ≠ 0 then onN ql e else 210) = n) :
    ACalls E0 10 [.po bid 0, e.d] X tk (fun r S' tk' => r = .tup [.int .u64 0, .int .i64 n] ∧ S' = X ∧ tk' = tk) := by subst hn; exact post_err h e hR hbad
end
theorem two_R {day n : Int} (hd : I64 day) (hn : I64 n) : (twoE day n).R := ⟨hd, by simp [twoE], by simp [twoE, U64], fun x hx => by
  simp only [twoE, List.mem_cons, List.not_mem_nil, or_false] at hx
  rcases hx with rfl | rfl
  · exact ⟨by simp [I64], by simp [U64], by simp [U64], hn⟩
  · exact ⟨by simp [I64], by simp [U64], by simp [U64], by simp only; rw [wi64]; unfold I64; omega⟩⟩
theorem f1_in : inV f1 2100 24277 = -100 := by rw [inV, if_neg (by omega), f1_at.2.2]
set_option maxHeartbeats 4000000 in
theorem head_b : Pure 5 [] (.bool true) := by
  intro S tk
  have hd1 := day_r 2024 1 5 (by omega) (by omega) (by decide)
  rw [day_a.1] at hd1
  have hd2 := day_r 2024 1 31 (by omega) (by omega) (by decide)
  rw [day_a.2.1] at hd2
  have hd3 := day_r 2024 2 1 (by omega) (by omega) (by decide)
  rw [day_a.2.2] at hd3
  have ht1 : Pure 18 [.int .i64 738890, .int .i64 100] e1.d := two 738890 100
  have ht2 := two 738916 1
  have ht3 : Pure 18 [.int .i64 738917, .int .i64 1] e3.d := two 738917 1
  have hmo := monthD 2024 1 (by omega) (by omega)
  rw [show (12 * ((2024 : Int) - 1) + 1) = 24277 by omega] at hmo
  have hsm := sameB [⟨1200, 100, 0⟩, ⟨2100, 0, 100⟩] [⟨1200, 100, 0⟩, ⟨2100, 0, 100⟩] (by simp) (by simp)
  rw [decide_eq_true rfl] at hsm
  have r1 : e1.R := two_R (by unfold I64; omega) (by unfold I64; omega)
  have r2 : (twoE 738916 1).R := two_R (by unfold I64; omega) (by unfold I64; omega)
  have r3 : e3.R := two_R (by unfold I64; omega) (by unfold I64; omega)
  have hbad : onN stdB (twoE 738916 1) ≠ 0 ∨ ofI (twoE 738916 1).day ≤ 24277 := .inr (by show ofI 738916 ≤ 24277; rw [of_a.2.1]; omega)
  have h210 : (if onN stdB (twoE 738916 1) ≠ 0 then onN stdB (twoE 738916 1) else 210) = 210 := by rw [eB_on]; rfl
  have ho1 : ¬ ofI e1.day ≤ 0 := by show ¬ ofI 738890 ≤ 0; rw [of_a.1]; omega
  have ho3 : ¬ ofI e3.day ≤ 24277 := by show ¬ ofI 738917 ≤ 24277; rw [of_a.2.2]; omega
  refine ACalls.fgo c5 rfl fun hS => ?_
  repeat' first | with_reducible refine fzD_ite (fun q => ?_) (fun q => ?_) | ((try conv => whnf); first | refine bs_t (decide_eq_true rfl) ?_ | refine bs_d (fun q => ?_) (fun q => ?_) | refine bs_n ?_ | refine bs_i (fun q => ?_) (fun q => ?_) | refine ckz (hd1) ?_ | refine cq (hd1) ?_ | refine ckz (hd2) ?_ | refine cq (hd2) ?_ | refine ckz (hd3) ?_ | refine cq (hd3) ?_ | refine ckz (ht1) ?_ | refine cq (ht1) ?_ | refine ckz (ht2) ?_ | refine cq (ht2) ?_ | refine ckz (ht3) ?_ | refine cq (ht3) ?_ | refine ckz (hmo) ?_ | refine cq (hmo) ?_ | refine ckz (hsm) ?_ | refine cq (hsm) ?_ | (refine ckNE (G := fun r o => r = .po (S.length + 1) 0 ∧ Ch (look stdB) o) (Jn := fun o => [o, .arr [.map S.length]]) (ds' := []) rfl rfl (std_atB (by simp)) .nil ?_; rintro r o ⟨rfl, hch⟩) | (refine ckN (d := .po (S.length + 2 + 1) 0) (Jn := [.map kSl (MG.entKv sD []) 0, .arr [.po (S.length + 1) 0, .nilsl, .map (S.length + 2), .int .i64 0]]) rfl rfl (new_at (by simp)) ?_; have hB0 := bk_new (S := S) hch stdB_ok.1 stdB_ok.2) | (refine ckBk (Q := fun r X' => r = .tup [.int .u64 1, .int .i64 0] ∧ BkR X' S.length (S.length + 3) (S.length + 1) S.length (S.length + 2) stdB f1 [e1] 0 ∧ True) rfl rfl ((postK hB0 e1 r1 e1_on ho1 e1_ok (by simp)).mono (fun r X' tk' h => ⟨⟨h.1.1, h.1.2.1, trivial⟩, h.2⟩)) (SubL.refl _) ?_; rintro r J1 ⟨rfl, hB1, -⟩) | refine ckA rfl rfl (balK hB1 1200 f1_bal) ?_ | refine ckA rfl rfl (ofK hB1 1200 7 f1_at.1) ?_ | refine ckA rfl rfl (ofK hB1 1200 8 f1_at.2.1) ?_ | refine ckA rfl rfl (inK hB1 2100 24277 (by unfold I64; omega) f1_in) ?_ | refine ckA rfl rfl (triK hB1 f1_tri) ?_ | (refine ckBk (Q := fun r X' => r = .int .i64 0 ∧ BkR X' S.length (S.length + 3) (S.length + 1) S.length (S.length + 2) stdB f1 [e1] 24277) rfl rfl ((closeK hB1 24277).mono (fun r X' tk' h => ⟨⟨h.1.1, h.1.2⟩, h.2⟩)) (SubL.refl _) ?_; rintro r J2 ⟨rfl, hB2⟩) | refine ckA rfl rfl (postErrK hB2 (twoE 738916 1) r2 hbad h210) ?_ | (refine ckBk (Q := fun r X' => r = .tup [.int .u64 2, .int .i64 0] ∧ BkR X' S.length (S.length + 3) (S.length + 1) S.length (S.length + 2) stdB f2 [e1, e3] 24277) rfl rfl ((postK hB2 e3 r3 e3_on ho3 e3_ok (by simp)).mono (fun r X' tk' h => ⟨⟨h.1.1, h.1.2.1⟩, h.2⟩)) (SubL.refl _) ?_; rintro r J3 ⟨rfl, hB3⟩) | (refine ckBk (Q := fun r X' => r = .int .i64 9 ∧ True) rfl rfl ((closeK hB3 24276).mono (fun r X' tk' h => ⟨⟨h.1.1, trivial⟩, h.2⟩)) (SubL.refl _) ?_; rintro r J4 ⟨rfl, -⟩) | refine eqk rfl ?_ | refine ffin _ rfl rfl hS (Sub.refl _) rfl ⟨?_, rfl, rfl⟩)
  all_goals rfl
open Go Go.KL Go.RowKit Go.Proofs Go.Proofs.YtkojphmejddhiaaGreatDoor Go.ChangeShapes Go.WideShapes Go.KL.YtkojphmejddhiaaGreatDoor
theorem own : ownKnob Tryz.prog.godebug = none := by kernel_rfl
theorem laidOut : laidOutB Tryz.prog = true := by kernel_rfl
theorem shapeB : (shape Tryz.prog 30 161) = some (.agg (List.replicate 13 (.int .i64))) := by kernel_rfl
theorem ahead_g : Tryz.prog.globalNamed "quittance/civil.ahead" = some 0 := by kernel_rfl
theorem ahead_t : (Tryz.prog.globals[0]?).map (·.type) = some 161 := by kernel_rfl
theorem gok {W : World} (h : laidMetH Tryz.prog [("quittance/civil.ahead", Rows.laid_quittance_civil_ahead)] W) : GRel E0 (cfgW W) := by
  have h' : laidMet Tryz.prog [("quittance/civil.ahead", Rows.laid_quittance_civil_ahead)] W := h
  obtain ⟨ps, ⟨g, t, cs, fuel, p, q, e1, e2, e3, e4, _⟩, _⟩ := h'
  rw [ahead_g] at e1
  obtain rfl := Option.some.inj e1
  rw [ahead_t] at e2
  obtain rfl := Option.some.inj e2
  have hv := (shOk Tryz.prog (fun _ => ()) W (fun _ => true) false 30 161 _ shapeB fuel cs.toList _ p e4).1
  intro g' e he
  have hg : g' = 0 ∧ e = aheadE := by
    simp only [E0] at he
    split at he
    · rename_i h0; exact ⟨h0, (Option.some.inj he).symm⟩
    · cases he
  obtain ⟨rfl, rfl⟩ := hg
  exact gvar ahead_g e3 hv

noncomputable def laidWorld (os : Os) : World :=
  let w0 := World.holding Tryz.prog os ⟨#[], #[], []⟩
  { w0 with heap := w0.heap.modify 0 fun
      | .cells _ t frozen => .cells #[.int .i64 0, .int .i64 31, .int .i64 59, .int .i64 90, .int .i64 120, .int .i64 151, .int .i64 181, .int .i64 212, .int .i64 243, .int .i64 273, .int .i64 304, .int .i64 334, .int .i64 365] t frozen
      | o => o }
theorem laidWorld_met (os : Os) (args : Array Value) : laidMetH Tryz.prog [("quittance/civil.ahead", Rows.laid_quittance_civil_ahead)] ((laidWorld os).forCall (fun _ _ => 0) ⟨#[], args, []⟩).memory :=
  show laidMet _ _ _ from laidMet_of_run (ps := MemPlace.row ⟨0, 0, none⟩ 13) 8 (by kernel_rfl) (by kernel_rfl) (by kernel_rfl)
def shLn : Sh := .agg [.int .i64, .int .u64, .int .u64, .int .i64]
theorem ok_ln {H : Type} {d : DataW H} (h : shLn.ok d) : ∃ x : Ln, x.R ∧ shLn.cells d = x.cs := by
  obtain ⟨parts, rfl, d1, _, rfl, ⟨n1, rfl, w1⟩, d2, _, rfl, ⟨n2, rfl, w2⟩, d3, _, rfl, ⟨n3, rfl, w3⟩, d4, _, rfl, ⟨n4, rfl, w4⟩, rfl⟩ := h
  exact ⟨⟨n1, n2, n3, n4⟩, ⟨ok_i64 w1, ok_u64 w2, ok_u64 w3, ok_i64 w4⟩, rfl⟩
def shEnt : Sh := .agg [.int .i64, .int .u8, .int .u64, .sl shLn]
theorem ok_ent {H : Type} {d : DataW H} (h : shEnt.ok d) : ∃ e : Go.KL.YtkojphmejddhiaaGreatDoor.J.Ent, e.R ∧ shEnt.cells d = entC e := by
  obtain ⟨parts, rfl, d1, _, rfl, ⟨n1, rfl, w1⟩, d2, _, rfl, ⟨n2, rfl, w2⟩, d3, _, rfl, ⟨n3, rfl, w3⟩, d4, _, rfl, h4, rfl⟩ := h
  obtain ⟨l, hR, hl, hcs⟩ := ok_sl (R := fun x : Ln => x.R) (C := Ln.cs) (fun d h => ok_ln h) h4
  refine ⟨⟨n1, n2, n3, l⟩, ⟨ok_i64 w1, ok_u8 w2, ok_u64 w3, hR⟩, ?_⟩
  show Sh.cells (.int .i64) _ ++ (Sh.cells (.int .u8) _ ++ (Sh.cells (.int .u64) _ ++ ((Sh.sl shLn).cells d4 ++ []))) = _
  rw [hcs]; rfl
end Go.KL.YtkojphmejddhiaaGreatDoor.J
