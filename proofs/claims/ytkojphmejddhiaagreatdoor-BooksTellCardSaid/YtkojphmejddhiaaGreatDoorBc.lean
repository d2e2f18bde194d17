/- charts: the codes of a map, rising -/
import Derived.Test.YtkojphmejddhiaaGreatDoorBb
import Derived.Test.YtkojphmejddhiaaGreatDoorKy
set_option linter.unusedVariables false
set_option linter.unusedSimpArgs false
set_option linter.unusedSectionVars false
set_option maxRecDepth 4000
namespace Go.KL.YtkojphmejddhiaaGreatDoor
open Go Go.KL Go.RowKit Go.Proofs Go.Sort
theorem c56 : cFun E0.P 56 = some ⟨4, [(2, none)], .seq (.rg [⟨some 1, none, .box (.t 0) 75⟩, ⟨some 2, none, .mv (.k .nilfn)⟩]) (.seq (.rg [⟨some 3, none, .mkfn 73 [.t 1]⟩, ⟨some 2, none, .mv (.t 3)⟩]) .ret)⟩ := by kernel_rfl
theorem c73 : cFun E0.P 73 = some ⟨14, [], .seq (.rg [⟨some 4, none, .ld 1 false (.t 1)⟩, ⟨some 5, none, .rngM (.t 4)⟩]) (.block 0 (.loop (.seq (.rg [⟨some 6, none, .nxt (.t 5)⟩, ⟨some 7, none, .ext 0 (.t 6)⟩]) (.seq (.cond (.t 7) .skip (.exit 0)) (.block 1 (.seq (.rg [⟨some 8, none, .ent (.t 5)⟩, ⟨some 9, none, .ext 0 (.t 8)⟩, ⟨some 3, none, .mv (.t 9)⟩]) (.seq (.rg [⟨some 10, none, .mv (.t 0)⟩, ⟨some 11, none, .mv (.t 3)⟩, ⟨some 12, none, .callv (.t 10) [.t 11]⟩, ⟨some 13, none, .un .not (.t 12)⟩]) (.cond (.t 13) .ret .skip))))))))⟩ := by kernel_rfl
theorem c32 : cFun E0.P 32 = some ⟨6, [(2, none)], .seq (.rg [⟨some 2, none, .mv (.k .nilsl)⟩]) (.seq (.rg [⟨some 3, none, .mv (.t 0)⟩, ⟨some 4, none, .call 56 [.t 3]⟩, ⟨some 5, none, .call 55 [.t 4]⟩, ⟨some 2, none, .mv (.t 5)⟩]) .ret)⟩ := by kernel_rfl

structure SKy where
  d : Array Int
  vs : List Ent

theorem keysEnum {S : List O} {tk : Tks} {cell mid clk : Nat} {kt : KT} {l : List Ent} (hc : S[cell]? = some (.arr [.map mid])) (hM : S[mid]? = some (.map kt (entKv l) clk)) (hst : Stamps l clk) :
    Enum 73 cell S tk l.length (fun d => d.toList.Perm (l.map (·.1))) := by
  refine ⟨rfl, fun yid gS n hlen hosc hold hy => ?_⟩
  refine ACalls.fgo c73 rfl fun hS => ?_
  repeat' first | with_reducible refine fzD_ite (fun q => ?_) (fun q => ?_) | ((try conv => whnf); first | refine bs_d (fun q => ?_) (fun q => ?_) | refine bs_n ?_ | refine bs_i (fun q => ?_) (fun q => ?_) | refine pK_i (ldO_old (hold _ _ _ hc) rfl) ?_ | refine gk_rng_old rfl rfl rfl (hold _ _ _ hM) ?_ | refine eqk rfl ?_ | refine ffin _ rfl rfl hS (Sub.refl _) rfl ⟨?_, rfl, rfl⟩)
  refine floopS (α := SKy) rfl (fun s => s.vs.Nodup ∧ (∀ e ∈ s.vs, e ∈ l) ∧ s.d.toList = s.vs.map (·.1)) (fun s => l.length - s.vs.length) (fun s => [(0, .d (.yld yid)), (5, .d (.po (gS #[]).length 0))])
    (fun s => gS s.d) (fun s => [.iter mid clk (s.vs.map (·.2.2)) clk]) (fun _ => []) (fun s _ => ⟨by rw [hlen, hlen], by rw [hlen]; exact hosc _⟩) ⟨#[], []⟩ ⟨List.nodup_nil, by simp, rfl⟩ rfl (fstep_sub ⟨Sub.refl _, Sub.refl _, trivial⟩) ?_
  rintro s ⟨h1, h2, h3⟩
  have hsz : s.d.size = s.vs.length := by rw [← Array.length_toList, h3, List.length_map]
  repeat' first | with_reducible refine fzD_ite (fun q => ?_) (fun q => ?_) | ((try conv => whnf); first | refine bs_d (fun q => ?_) (fun q => ?_) | refine bs_n ?_ | refine bs_i (fun q => ?_) (fun q => ?_) | (refine gk_nxt (it := 0) (by rw [hlen, hlen]) rfl rfl rfl (at_old (hold _ _ _ hM)) (.inr (entKv_first hst)) ?_ ?_; (rintro p hp hns; obtain ⟨e, he, rfl⟩ := List.mem_map.1 hp; obtain ⟨m1, m2, m3⟩ := hst.more h1 h2 he hns; skip); rotate_left; intro hall; rotate_left) | refine pK_i (entD_own (k := 0) (by rw [hlen, hlen]) rfl (at_old (hold _ _ _ hM)) hp (hst.kveq he)) ?_ | refine ykT (S1 := gS (s.d.push e.1)) (J1 := [_]) (by rw [List.append_nil]; exact hy s.d e.1 _ (by omega)) rfl (by rw [hlen, hlen]) ?_ | refine ffin _ (by rw [hlen, hlen]) rfl (by rw [hlen]; exact hosc _) (Sub.refl _) rfl ⟨rfl, rfl, s.d, by rw [h3]; exact (hst.full h1 h2 hall).map _, rfl⟩ | refine eqk rfl ?_ | refine ffin _ rfl rfl hS (Sub.refl _) rfl ⟨?_, rfl, rfl⟩)

  refine fnextS (α := SKy) ⟨s.d.push e.1, s.vs ++ [e]⟩ ⟨m1, m2, by simp [h3]⟩ (by simp only [List.length_append, List.length_singleton]; omega) rfl ?_
  simp only [List.map_append, List.map_cons, List.map_nil]
  exact fstep_sub ⟨Sub.refl _, Sub.refl _, trivial⟩
theorem c61 : cFun E0.P 61 = some ⟨11, [(2, none)], .seq (.rg [⟨some 2, none, .mv (.k (.int .i64 0))⟩]) (.seq (.seq (.rg [⟨some 3, none, .mv (.t 0)⟩]) (.block 0 (.seq (.seq (.rg [⟨some 5, none, .bin .eql .leaf (.t 3) (.k (.int .u8 1))⟩, ⟨some 4, none, .mv (.t 5)⟩]) (.cond (.t 4) .skip (.rg [⟨some 6, none, .bin .eql .leaf (.t 3) (.k (.int .u8 4))⟩, ⟨some 4, none, .mv (.t 6)⟩]))) (.cond (.t 4) (.seq (.rg [⟨some 2, none, .mv (.k (.int .i64 1))⟩]) .ret) (.seq (.seq (.rg [⟨some 8, none, .bin .eql .leaf (.t 3) (.k (.int .u8 2))⟩, ⟨some 7, none, .mv (.t 8)⟩]) (.cond (.t 7) .skip (.seq (.rg [⟨some 9, none, .bin .eql .leaf (.t 3) (.k (.int .u8 3))⟩, ⟨some 7, none, .mv (.t 9)⟩]) (.cond (.t 7) .skip (.rg [⟨some 10, none, .bin .eql .leaf (.t 3) (.k (.int .u8 5))⟩, ⟨some 7, none, .mv (.t 10)⟩]))))) (.cond (.t 7) (.seq (.rg [⟨some 2, none, .mv (.k (.int .i64 (-1)))⟩]) .ret) .skip)))))) (.seq (.rg [⟨some 2, none, .mv (.k (.int .i64 0))⟩]) .ret))⟩ := by kernel_rfl
theorem c37 : cFun E0.P 37 = some ⟨34, [(2, none)], .seq (.rg [⟨some 1, none, .box (.t 0) 37⟩, ⟨some 2, none, .mv (.k (.bool false))⟩]) (.seq (.rg [⟨some 3, none, .fa 0 (.t 1)⟩, ⟨some 4, none, .ld 1 false (.t 3)⟩, ⟨some 5, none, .bin .geq .leaf (.t 4) (.k (.int .i64 1))⟩, ⟨some 6, none, .mv (.t 5)⟩, ⟨some 7, some (6, true), .fa 0 (.t 1)⟩, ⟨some 8, some (6, true), .ld 1 false (.t 7)⟩, ⟨some 9, some (6, true), .bin .leq .leaf (.t 8) (.k (.int .i64 9999))⟩, ⟨some 10, none, .pick (.t 6) (.t 9) (.k (.bool false))⟩, ⟨some 11, none, .mv (.t 10)⟩, ⟨some 12, some (11, true), .fa 2 (.t 1)⟩, ⟨some 13, some (11, true), .ld 1 false (.t 12)⟩, ⟨some 14, some (11, true), .call 61 [.t 13]⟩, ⟨some 15, some (11, true), .bin .neq .leaf (.t 14) (.k (.int .i64 0))⟩, ⟨some 16, none, .pick (.t 11) (.t 15) (.k (.bool false))⟩, ⟨some 17, none, .mv (.t 16)⟩, ⟨some 18, some (17, true), .fa 3 (.t 1)⟩, ⟨some 19, some (17, true), .ld 1 false (.t 18)⟩, ⟨some 20, some (17, true), .len 0 (.t 19)⟩, ⟨some 21, some (17, true), .bin .geq .leaf (.t 20) (.k (.int .i64 1))⟩, ⟨some 22, none, .pick (.t 17) (.t 21) (.k (.bool false))⟩, ⟨some 23, none, .mv (.t 22)⟩, ⟨some 24, some (23, true), .fa 3 (.t 1)⟩, ⟨some 25, some (23, true), .ld 1 false (.t 24)⟩, ⟨some 26, some (23, true), .len 0 (.t 25)⟩, ⟨some 27, some (23, true), .bin .leq .leaf (.t 26) (.k (.int .i64 60))⟩, ⟨some 28, none, .pick (.t 23) (.t 27) (.k (.bool false))⟩, ⟨some 29, none, .mv (.t 28)⟩, ⟨some 30, some (29, true), .fa 4 (.t 1)⟩, ⟨some 31, some (29, true), .ld 1 false (.t 30)⟩, ⟨some 32, some (29, true), .un .not (.t 31)⟩, ⟨some 33, none, .pick (.t 29) (.t 32) (.k (.bool false))⟩, ⟨some 2, none, .mv (.t 33)⟩]) .ret)⟩ := by kernel_rfl
theorem c31 : cFun E0.P 31 = some ⟨12, [(2, none)], .seq (.rg [⟨some 2, none, .mv (.k (.bool false))⟩]) (.seq (.rg [⟨some 3, none, .mv (.t 0)⟩, ⟨some 4, none, .bin .eql .ptr (.t 3) (.k .nilp)⟩, ⟨some 5, none, .mv (.t 4)⟩, ⟨some 6, some (5, false), .mv (.t 0)⟩, ⟨some 7, some (5, false), .nilck (.t 6)⟩, ⟨some 8, some (5, false), .fa 0 (.t 7)⟩, ⟨some 9, some (5, false), .ld 1 false (.t 8)⟩, ⟨some 10, some (5, false), .bin .eql .map (.t 9) (.k .nilmap)⟩, ⟨some 11, none, .pick (.t 5) (.k (.bool true)) (.t 10)⟩, ⟨some 2, none, .mv (.t 11)⟩]) .ret)⟩ := by kernel_rfl
theorem c39 : cFun E0.P 39 = some ⟨24, [(4, some (5, true)), (5, none)], .seq (.rg [⟨some 4, none, .alloc [.int .i64 0, .int .i64 0, .int .u8 0, .str ⟨#[]⟩, .bool false] 37⟩, ⟨some 5, none, .mv (.k (.int .i64 0))⟩]) (.seq (.seq (.rg [⟨some 8, none, .mv (.t 0)⟩, ⟨some 9, none, .call 31 [.t 8]⟩]) (.cond (.t 9) (.seq (.rg [⟨some 10, none, .build [.int .i64 0, .int .i64 0, .int .u8 0, .str ⟨#[]⟩, .bool false] []⟩, ⟨none, none, .st 5 (.t 4) (.t 10)⟩, ⟨some 5, none, .mv (.k (.int .i64 1))⟩]) .ret) .skip)) (.seq (.rg [⟨some 12, none, .mv (.t 0)⟩, ⟨some 13, none, .nilck (.t 12)⟩, ⟨some 14, none, .fa 0 (.t 13)⟩, ⟨some 15, none, .ld 1 false (.t 14)⟩, ⟨some 16, none, .mv (.t 1)⟩, ⟨some 17, none, .mget (KT.lf (KLf.i .i64)) (.agg [.int .i64 0, .int .i64 0, .int .u8 0, .str ⟨#[]⟩, .bool false]) true (.t 15) (.t 16)⟩, ⟨some 11, none, .mv (.t 17)⟩, ⟨some 18, none, .ext 0 (.t 11)⟩, ⟨some 19, none, .ext 1 (.t 11)⟩, ⟨some 6, none, .alloc [.int .i64 0, .int .i64 0, .int .u8 0, .str ⟨#[]⟩, .bool false] 37⟩, ⟨none, none, .st 5 (.t 6) (.t 18)⟩, ⟨some 7, none, .mv (.t 19)⟩]) (.seq (.seq (.rg [⟨some 20, none, .mv (.t 7)⟩, ⟨some 21, none, .un .not (.t 20)⟩]) (.cond (.t 21) (.seq (.rg [⟨some 22, none, .build [.int .i64 0, .int .i64 0, .int .u8 0, .str ⟨#[]⟩, .bool false] []⟩, ⟨none, none, .st 5 (.t 4) (.t 22)⟩, ⟨some 5, none, .mv (.k (.int .i64 7))⟩]) .ret) .skip)) (.seq (.rg [⟨some 23, none, .ld 5 true (.t 6)⟩, ⟨none, none, .st 5 (.t 4) (.t 23)⟩, ⟨some 5, none, .mv (.k (.int .i64 0))⟩]) .ret))))⟩ := by kernel_rfl
theorem c38 : cFun E0.P 38 = some ⟨18, [(4, none)], .seq (.rg [⟨some 4, none, .mv (.k (.int .i64 0))⟩]) (.seq (.rg [⟨some 5, none, .mv (.k (.int .i64 0))⟩]) (.seq (.block 0 (.loop (.seq (.seq (.rg [⟨some 6, none, .mv (.t 1)⟩, ⟨some 7, none, .bin .neq .leaf (.t 6) (.k (.int .i64 0))⟩]) (.cond (.t 7) .skip (.exit 0))) (.block 1 (.seq (.rg [⟨some 8, none, .mv (.t 0)⟩, ⟨some 9, none, .nilck (.t 8)⟩, ⟨some 10, none, .fa 0 (.t 9)⟩, ⟨some 11, none, .ld 1 false (.t 10)⟩, ⟨some 12, none, .mv (.t 1)⟩, ⟨some 13, none, .mget (KT.lf (KLf.i .i64)) (.agg [.int .i64 0, .int .i64 0, .int .u8 0, .str ⟨#[]⟩, .bool false]) false (.t 11) (.t 12)⟩, ⟨some 14, none, .fd 1 1 false (.t 13)⟩, ⟨some 1, none, .mv (.t 14)⟩]) (.rg [⟨some 15, none, .mv (.t 5)⟩, ⟨some 16, none, .bin .add .leaf (.t 15) (.k (.int .i64 1))⟩, ⟨some 5, none, .mv (.t 16)⟩])))))) (.seq (.rg [⟨some 17, none, .mv (.t 5)⟩, ⟨some 4, none, .mv (.t 17)⟩]) .ret)))⟩ := by kernel_rfl
theorem c26 : cFun E0.P 26 = some ⟨4, [(0, none)], .seq (.rg [⟨some 0, none, .mv (.k .nilp)⟩]) (.seq (.rg [⟨some 1, none, .mkmap (KT.lf (KLf.i .i64))⟩, ⟨some 2, none, .build [.nilmap] [(0, 1, .t 1)]⟩, ⟨some 3, none, .box (.t 2) 77⟩, ⟨some 0, none, .mv (.t 3)⟩]) .ret)⟩ := by kernel_rfl

structure Ac where
  code : Int
  up : Int
  cl : Int
  nm : ByteArray
  sh : Bool
  deriving DecidableEq, Inhabited
def Ac.cs (a : Ac) : List D := [.int .i64 a.code, .int .i64 a.up, .int .u8 a.cl, .str a.nm, .bool a.sh]
def acD (a : Ac) : D := .agg a.cs
abbrev noAc : Ac := ⟨0, 0, 0, ⟨#[]⟩, false⟩
abbrev ktI : KT := .lf (.i .i64)

structure ChR (cid mid : Nat) (S : List O) (f : Int → Option Ac) (l : List Ent) (clk : Nat) : Prop where
  c : S[cid]? = some (.arr [.map mid])
  m : S[mid]? = some (.map ktI (entKv l) clk)
  r : MapR acD l clk f

theorem ChR.app {cid mid : Nat} {S J : List O} {f : Int → Option Ac} {l : List Ent} {clk : Nat} (h : ChR cid mid S f l clk) : ChR cid mid (S ++ J) f l clk := ⟨at_old h.c, at_old h.m, h.r⟩
def sideF (c : Int) : Int := if c = 1 ∨ c = 4 then 1 else if c = 2 ∨ c = 3 ∨ c = 5 then -1 else 0
theorem side (c : Int) : Pure 61 [.int .u8 c] (.int .i64 (sideF c)) := by
  intro S tk
  unfold sideF
  refine ACalls.fgo c61 rfl fun hS => ?_
  repeat' first | with_reducible refine fzD_ite (fun q => ?_) (fun q => ?_) | ((try conv => whnf); first | refine bs_d (fun q => ?_) (fun q => ?_) | refine bs_n ?_ | refine bs_i (fun q => ?_) (fun q => ?_) | refine eqk rfl ?_ | refine ffin _ rfl rfl hS (Sub.refl _) rfl ⟨?_, rfl, rfl⟩)
  all_goals first
    | (rw [if_pos (by omega)]; rfl)
    | (rw [if_neg (by omega), if_pos (by omega)]; rfl)
    | (rw [if_neg (by omega), if_neg (by omega)]; rfl)
def mayA (a : Ac) : Prop := (1 ≤ a.code ∧ a.code ≤ 9999) ∧ sideF a.cl ≠ 0 ∧ (1 ≤ a.nm.size ∧ a.nm.size ≤ 60) ∧ a.sh = false
instance (a : Ac) : Decidable (mayA a) := inferInstanceAs (Decidable ((1 ≤ a.code ∧ a.code ≤ 9999) ∧ sideF a.cl ≠ 0 ∧ (1 ≤ a.nm.size ∧ a.nm.size ≤ 60) ∧ a.sh = false))
theorem chMay (a : Ac) : Pure 37 [acD a] (.bool (decide (mayA a))) := by
  intro S tk
  refine ACalls.fgo c37 rfl fun hS => ?_
  repeat' first | with_reducible refine fzD_ite (fun q => ?_) (fun q => ?_) | ((try conv => whnf); first | refine bs_d (fun q => ?_) (fun q => ?_) | refine bs_n ?_ | refine bs_i (fun q => ?_) (fun q => ?_) | refine ckz (side _) ?_ | refine cq (side _) ?_ | refine eqk rfl ?_ | refine ffin _ rfl rfl hS (Sub.refl _) rfl ⟨?_, rfl, rfl⟩)
  all_goals simp only [tupD, D.bool.injEq]
  all_goals symm
  all_goals first
    | exact decide_eq_true ⟨by omega, by assumption, by omega, by assumption⟩
    | exact decide_eq_false (fun h => by have := h.1; omega)
    | exact decide_eq_false (fun h => absurd (by assumption) h.2.1)
    | exact decide_eq_false (fun h => by have := h.2.2.1; omega)
    | exact decide_eq_false (fun h => by have := h.2.2.2; simp_all)
theorem none_nil : Pure 31 [.nilp] (.bool true) := by
  intro S tk
  refine ACalls.fgo c31 rfl fun hS => ?_
  repeat' first | with_reducible refine fzD_ite (fun q => ?_) (fun q => ?_) | ((try conv => whnf); first | refine bs_d (fun q => ?_) (fun q => ?_) | refine bs_n ?_ | refine bs_i (fun q => ?_) (fun q => ?_) | refine eqk rfl ?_ | refine ffin _ rfl rfl hS (Sub.refl _) rfl ⟨?_, rfl, rfl⟩)
  all_goals rfl
section
variable {cid mid clk : Nat} {S : List O} {tk : Tks} {f : Int → Option Ac} {l : List Ent}
theorem none_at (h : ChR cid mid S f l clk) : ACalls E0 31 [.po cid 0] S tk (fun r S' tk' => r = .bool false ∧ S' = S ∧ tk' = tk) := by
  refine ACalls.fgo c31 rfl fun hS => ?_
  repeat' first | with_reducible refine fzD_ite (fun q => ?_) (fun q => ?_) | ((try conv => whnf); first | refine bs_d (fun q => ?_) (fun q => ?_) | refine bs_n ?_ | refine bs_i (fun q => ?_) (fun q => ?_) | refine pK_i (ldO_old h.c rfl) ?_ | refine eqk rfl ?_ | refine ffin _ rfl rfl hS (Sub.refl _) rfl ⟨?_, rfl, rfl⟩)
  all_goals rfl
theorem none_zero (h : S[cid]? = some (.arr [.nilmap])) : ACalls E0 31 [.po cid 0] S tk (fun r S' tk' => r = .bool true ∧ S' = S ∧ tk' = tk) := by
  refine ACalls.fgo c31 rfl fun hS => ?_
  repeat' first | with_reducible refine fzD_ite (fun q => ?_) (fun q => ?_) | ((try conv => whnf); first | refine bs_d (fun q => ?_) (fun q => ?_) | refine bs_n ?_ | refine bs_i (fun q => ?_) (fun q => ?_) | refine pK_i (ldO_old h rfl) ?_ | refine eqk rfl ?_ | refine ffin _ rfl rfl hS (Sub.refl _) rfl ⟨?_, rfl, rfl⟩)
  all_goals rfl
theorem mgA {J : List O} (h : ChR cid mid S f l clk) (k : Int) : mgD ktI (.agg [.int .i64 0, .int .i64 0, .int .u8 0, .str ⟨#[]⟩, .bool false]) false (S ++ J) (.map mid) (.int .i64 k) = some (.agg ((f k).getD noAc).cs) := by
  rw [mgD_old h.m rfl, if_neg (by simp), show (D.int .i64 k) = kD k from rfl, mget_entKv, h.r.get]
  cases f k <;> rfl
theorem mgB {J : List O} (h : ChR cid mid S f l clk) (k : Int) : mgD ktI (.agg [.int .i64 0, .int .i64 0, .int .u8 0, .str ⟨#[]⟩, .bool false]) true (S ++ J) (.map mid) (.int .i64 k) = some (.tup [.agg ((f k).getD noAc).cs, .bool (f k).isSome]) := by
  rw [mgD_old h.m rfl, if_pos rfl, show (D.int .i64 k) = kD k from rfl, mget_entKv, mfind_some, h.r.get]
  cases f k <;> rfl
def getF (f : Int → Option Ac) (k : Int) : D := .tup [.agg ((f k).getD noAc).cs, .int .i64 (if (f k).isSome = true then 0 else 7)]
theorem get_at (h : ChR cid mid S f l clk) (k : Int) : ACalls E0 39 [.po cid 0, .int .i64 k] S tk (fun r S' tk' => r = getF f k ∧ S' = S ∧ tk' = tk) := by
  refine ACalls.fgo c39 rfl fun hS => ?_
  repeat' first | with_reducible refine fzD_ite (fun q => ?_) (fun q => ?_) | ((try conv => whnf); first | refine bs_d (fun q => ?_) (fun q => ?_) | refine bs_n ?_ | refine bs_i (fun q => ?_) (fun q => ?_) | refine ckA rfl rfl (none_at h.app) ?_ | refine pK_i (ldO_old h.c rfl) ?_ | refine pK_i (mgB h k) ?_ | refine eqk rfl ?_ | refine ffin _ rfl rfl hS (Sub.refl _) rfl ⟨?_, rfl, rfl⟩)
  · unfold getF; rw [if_pos (by assumption)]; rfl
  · unfold getF
    cases hf : f k with
    | none => rfl
    | some a => simp_all
theorem get_nil (k : Int) : Pure 39 [.nilp, .int .i64 k] (.tup [.agg noAc.cs, .int .i64 1]) := by
  intro S tk
  refine ACalls.fgo c39 rfl fun hS => ?_
  repeat' first | with_reducible refine fzD_ite (fun q => ?_) (fun q => ?_) | ((try conv => whnf); first | refine bs_d (fun q => ?_) (fun q => ?_) | refine bs_n ?_ | refine bs_i (fun q => ?_) (fun q => ?_) | refine ckz (none_nil) ?_ | refine cq (none_nil) ?_ | refine eqk rfl ?_ | refine ffin _ rfl rfl hS (Sub.refl _) rfl ⟨?_, rfl, rfl⟩)
  all_goals rfl
theorem get_zero (h : S[cid]? = some (.arr [.nilmap])) (k : Int) : ACalls E0 39 [.po cid 0, .int .i64 k] S tk (fun r S' tk' => r = .tup [.agg noAc.cs, .int .i64 1] ∧ S' = S ∧ tk' = tk) := by
  refine ACalls.fgo c39 rfl fun hS => ?_
  repeat' first | with_reducible refine fzD_ite (fun q => ?_) (fun q => ?_) | ((try conv => whnf); first | refine bs_d (fun q => ?_) (fun q => ?_) | refine bs_n ?_ | refine bs_i (fun q => ?_) (fun q => ?_) | refine ckA rfl rfl (none_zero (at_old h)) ?_ | refine eqk rfl ?_ | refine ffin _ rfl rfl hS (Sub.refl _) rfl ⟨?_, rfl, rfl⟩)
  all_goals rfl

def upF (f : Int → Option Ac) (k : Int) : Int := ((f k).getD noAc).up
def climb (f : Int → Option Ac) : Nat → Int → Int
  | 0, k => k
  | n + 1, k => climb f n (upF f k)
theorem depth_at (h : ChR cid mid S f l clk) (k : Int) (n : Nat) (hn : n < 4611686018427387904) (h0 : climb f n k = 0) (h1 : ∀ i, i < n → climb f i k ≠ 0) :
    ACalls E0 38 [.po cid 0, .int .i64 k] S tk (fun r S' tk' => r = .int .i64 n ∧ S' = S ∧ tk' = tk) := by
  have hc : ∀ i k, climb f (i + 1) k = upF f (climb f i k) := fun i => by
    induction i with
    | zero => intro k; rfl
    | succ i ih => intro k; rw [climb, ih]; rfl
  refine ACalls.fgo c38 rfl fun hS => ?_
  repeat' first | with_reducible refine fzD_ite (fun q => ?_) (fun q => ?_) | ((try conv => whnf); first | refine bs_d (fun q => ?_) (fun q => ?_) | refine bs_n ?_ | refine bs_i (fun q => ?_) (fun q => ?_) | refine eqk rfl ?_ | refine ffin _ rfl rfl hS (Sub.refl _) rfl ⟨?_, rfl, rfl⟩)
  refine floop (α := Nat) rfl rfl hS (fun i => i ≤ n) (fun i => n - i) (fun i => [(1, .d (.int .i64 (climb f i k))), (5, .d (.int .i64 i)), (0, .d (.po cid 0))]) (fun _ => []) (fun _ => []) 0 (Nat.zero_le _) (fstep_sub ⟨Sub.refl _, Sub.refl _, Sub.refl _, trivial⟩) ?_
  intro i hi
  repeat' first | with_reducible refine fzD_ite (fun q => ?_) (fun q => ?_) | ((try conv => whnf); first | refine bs_d (fun q => ?_) (fun q => ?_) | refine bs_n ?_ | refine bs_i (fun q => ?_) (fun q => ?_) | refine pK_i (ldO_old h.c rfl) ?_ | refine pK_i (mgA h _) ?_ | refine eqk rfl ?_ | refine ffin _ rfl rfl hS (Sub.refl _) rfl ⟨?_, rfl, rfl⟩)
  · have e : i = n := Classical.byContradiction fun hne => h1 i (by omega) (by assumption)
    rw [e]; rfl
  · have hlt : i < n := Classical.byContradiction fun hge => by
      have e : i = n := by omega
      rw [e] at q; exact q h0
    refine fnext (i + 1) (by omega) (by omega) (fstep_sub ⟨Sub.int ?_, Sub.int (by rw [wi64_id]; omega; unfold I64; omega), Sub.refl _, trivial⟩)
    rw [hc]; rfl
end
theorem new_at (S : List O) (tk : Tks) : ACalls E0 26 [] S tk (fun r S' tk' => r = .po (S.length + 1) 0 ∧ S' = S ++ [.map ktI (entKv []) 0, .arr [.map S.length]] ∧ tk' = tk) := by
  refine ACalls.fgo c26 rfl fun hS => ?_
  repeat' first | with_reducible refine fzD_ite (fun q => ?_) (fun q => ?_) | ((try conv => whnf); first | refine bs_d (fun q => ?_) (fun q => ?_) | refine bs_n ?_ | refine bs_i (fun q => ?_) (fun q => ?_) | refine ffinJ ⟨rfl, rfl, List.append_nil _⟩ | refine eqk rfl ?_ | refine ffin _ rfl rfl hS (Sub.refl _) rfl ⟨?_, rfl, rfl⟩)
theorem c40 : cFun E0.P 40 = some ⟨30, [(4, none)], .seq (.rg [⟨some 2, none, .box (.t 0) 25⟩, ⟨some 4, none, .mv (.k .nilsl)⟩]) (.seq (.seq (.rg [⟨some 11, none, .ld 1 false (.t 2)⟩, ⟨some 12, none, .mv (.t 1)⟩, ⟨some 13, none, .call 39 [.t 11, .t 12]⟩, ⟨some 10, none, .mv (.t 13)⟩, ⟨some 14, none, .ext 0 (.t 10)⟩, ⟨some 15, none, .ext 1 (.t 10)⟩, ⟨some 5, none, .alloc [.int .i64 0, .int .i64 0, .int .u8 0, .str ⟨#[]⟩, .bool false] 37⟩, ⟨none, none, .st 5 (.t 5) (.t 14)⟩, ⟨some 6, none, .mv (.t 15)⟩]) (.seq (.rg [⟨some 16, none, .mv (.t 6)⟩, ⟨some 17, none, .bin .neq .leaf (.t 16) (.k (.int .i64 0))⟩]) (.cond (.t 17) (.seq (.rg [⟨some 4, none, .mv (.k .nilsl)⟩]) .ret) .skip))) (.seq (.rg [⟨some 7, none, .alloc [.nilsl] 73⟩]) (.seq (.rg [⟨some 18, none, .ld 1 false (.t 2)⟩, ⟨some 19, none, .nilck (.t 18)⟩, ⟨some 20, none, .fa 0 (.t 19)⟩, ⟨some 21, none, .ld 1 false (.t 20)⟩, ⟨some 22, none, .call 32 [.t 21]⟩, ⟨some 8, none, .alloc [.nilsl] 73⟩, ⟨none, none, .st 1 (.t 8) (.t 22)⟩]) (.seq (.rg [⟨some 9, none, .alloc [.nilfn] 123⟩]) (.seq (.rg [⟨some 23, none, .mkfn 62 [.t 7, .t 8, .t 2, .t 9]⟩, ⟨none, none, .st 1 (.t 9) (.t 23)⟩]) (.seq (.rg [⟨some 24, none, .ld 1 false (.t 9)⟩, ⟨some 25, none, .mv (.t 1)⟩, ⟨some 26, none, .callv (.t 24) [.t 25]⟩]) (.seq (.rg [⟨some 27, none, .ld 1 false (.t 7)⟩, ⟨some 28, none, .call 63 [.t 27]⟩]) (.seq (.rg [⟨some 29, none, .ld 1 false (.t 7)⟩, ⟨some 4, none, .mv (.t 29)⟩]) .ret))))))))⟩ := by kernel_rfl
theorem c62 : cFun E0.P 62 = some ⟨31, [], .seq (.rg [⟨some 8, none, .ld 1 false (.t 1)⟩, ⟨some 9, none, .mv (.t 0)⟩, ⟨some 10, none, .buildS 1 1 [.int .i64 0] [(0, .t 9)] 3⟩, ⟨some 11, none, .app 73 3 1 8 [.int .i64 0] (.t 8) (.t 10)⟩, ⟨none, none, .st 1 (.t 1) (.t 11)⟩]) (.seq (.rg [⟨some 12, none, .ld 1 false (.t 2)⟩, ⟨some 13, none, .len 1 (.t 12)⟩, ⟨some 14, none, .mv (.k (.int .i64 0))⟩]) (.block 0 (.loop (.seq (.rg [⟨some 15, none, .bin .lss .leaf (.t 14) (.t 13)⟩]) (.seq (.cond (.t 15) .skip (.exit 0)) (.seq (.block 1 (.seq (.rg [⟨some 16, none, .ia 1 (.t 12) (.t 14)⟩, ⟨some 17, none, .ld 1 false (.t 16)⟩, ⟨some 7, none, .mv (.t 17)⟩]) (.seq (.rg [⟨some 18, none, .ld 1 false (.t 3)⟩, ⟨some 19, none, .nilck (.t 18)⟩, ⟨some 20, none, .fa 0 (.t 19)⟩, ⟨some 21, none, .ld 1 false (.t 20)⟩, ⟨some 22, none, .mv (.t 7)⟩, ⟨some 23, none, .mget (KT.lf (KLf.i .i64)) (.agg [.int .i64 0, .int .i64 0, .int .u8 0, .str ⟨#[]⟩, .bool false]) false (.t 21) (.t 22)⟩, ⟨some 24, none, .fd 1 1 false (.t 23)⟩, ⟨some 25, none, .mv (.t 0)⟩, ⟨some 26, none, .bin .eql .leaf (.t 24) (.t 25)⟩]) (.cond (.t 26) (.rg [⟨some 27, none, .ld 1 false (.t 4)⟩, ⟨some 28, none, .mv (.t 7)⟩, ⟨some 29, none, .callv (.t 27) [.t 28]⟩]) .skip)))) (.rg [⟨some 30, none, .bin .add .leaf (.t 14) (.k (.int .i64 1))⟩, ⟨some 14, none, .mv (.t 30)⟩])))))))⟩ := by kernel_rfl
theorem c75 : cFun E0.P 75 = some ⟨10, [(4, none)], .seq (.rg [⟨some 4, none, .mv (.k (.bool false))⟩]) (.seq (.rg [⟨some 5, none, .mv (.t 0)⟩, ⟨some 6, none, .mv (.t 1)⟩, ⟨some 7, none, .call 40 [.t 5, .t 6]⟩, ⟨some 8, none, .len 1 (.t 7)⟩, ⟨some 9, none, .bin .eql .leaf (.t 8) (.k (.int .i64 1))⟩, ⟨some 4, none, .mv (.t 9)⟩]) .ret)⟩ := by kernel_rfl

theorem keysC (mid : Nat) (S : List O) (tk : Tks) : ACalls E0 56 [.map mid] S tk (fun r S' tk' => r = .fn 73 [.po S.length 0] ∧ S' = S ++ [.arr [.map mid]] ∧ tk' = tk) := by
  refine ACalls.fgo c56 rfl fun hS => ?_
  repeat' first | with_reducible refine fzD_ite (fun q => ?_) (fun q => ?_) | ((try conv => whnf); first | refine bs_d (fun q => ?_) (fun q => ?_) | refine bs_n ?_ | refine bs_i (fun q => ?_) (fun q => ?_) | refine ffinJ ⟨rfl, rfl, List.append_nil _⟩ | refine eqk rfl ?_ | refine ffin _ rfl rfl hS (Sub.refl _) rfl ⟨?_, rfl, rfl⟩)
theorem sc_i64s (n m : Nat) : ∀ (l : List Int), scLL n m (i64s l) = true
  | [] => rfl
  | x :: r => by
    have := sc_i64s n m r
    unfold i64s at this ⊢
    simp only [List.map_cons, scLL, this, Bool.and_true]; rfl
def keysOf (f : Int → Option Ac) (L : List Int) : Prop := L.Pairwise (· < ·) ∧ ∀ k, k ∈ L ↔ (f k).isSome = true
theorem rowsV_i64s (l : List Int) : rowsV kD l = i64s l := rfl
section
variable {cid mid clk : Nat} {S : List O} {tk : Tks} {f : Int → Option Ac} {l : List Ent}
theorem keys_at (h : ChR cid mid S f l clk) (hN : l.length < 1099511627776) {L : List Int} (hL : keysOf f L) :
    ACalls E0 32 [.map mid] S tk (fun r S' tk' => r = .sl (i64s L) ∧ S' = S ∧ tk' = tk) := by
  have hmk : (S ++ [O.arr [.map mid]])[mid]? = some (.map ktI (entKv l) clk) := at_old h.m
  have hck : (S ++ [O.arr [.map mid]])[S.length]? = some (.arr [.map mid]) := by simp
  refine ACalls.fgo c32 rfl fun hS => ?_
  repeat' first | with_reducible refine fzD_ite (fun q => ?_) (fun q => ?_) | ((try conv => whnf); first | refine bs_d (fun q => ?_) (fun q => ?_) | refine bs_n ?_ | refine bs_i (fun q => ?_) (fun q => ?_) | refine ckN rfl rfl (d := .fn 73 [.po S.length 0]) (by have := keysC mid S tk; rw [List.append_nil, List.append_nil]; exact this) ?_ | (refine ckG (by rw [List.append_nil]; exact sorted (N := l.length) hN (fun d hd => by rw [← Array.length_toList, hd.length_eq, List.length_map]; exact Nat.le_refl _) (keysEnum hck hmk h.r.st)) ?_; rintro r S' tk' ⟨d, d', hgood, hsort, rfl, rfl, rfl⟩; refine ⟨S, [O.arr [.map mid]], tk', [], rfl, (List.append_nil _).symm, rfl, rfl, ?_⟩; rw [rowsV_i64s]) | refine ffin _ rfl rfl hS (Sub.refl _) ?_ ⟨?_, rfl, rfl⟩ | refine eqk rfl ?_ | refine ffin _ rfl rfl hS (Sub.refl _) rfl ⟨?_, rfl, rfl⟩)
  · have : scLL S.length (List.length tk') (i64s d'.toList) = true := sc_i64s ..
    simp [tupD, D.sc, this]
  · have hsl := Sorts.list hsort
    have hperm : d'.toList.Perm (l.map (·.1)) := hsl.1.trans hgood
    have e : d'.toList = L := rising_ext (rising_of hsl.2 (hperm.nodup_iff.2 h.r.nd)) hL.1 fun k => by rw [hperm.mem_iff, hL.2, h.r.mem]
    rw [e]; rfl
end

def pre (f : Int → Option Ac) (L : List Int) : Nat → Int → List Int
  | 0, _ => []
  | n + 1, c => c :: L.flatMap fun k => if upF f k = c then pre f L n k else []
def deep (f : Int → Option Ac) (L : List Int) : Nat → Int → Prop
  | 0, _ => False
  | n + 1, c => ∀ k ∈ L, upF f k = c → deep f L n k

structure GP where
  cid : Nat
  mid : Nat
  oc : Nat
  vid : Nat
  kc : Nat
  cc : Nat
  gc : Nat
def gth (g : GP) : D := .fn 62 [.po g.oc 0, .po g.kc 0, .po g.cc 0, .po g.gc 0]
def gS (g : GP) (S0 : List O) (d : Array Int) : List O := (S0.set g.oc (.arr [.vec g.vid d.size 1])).set g.vid (VI d)
structure GP.In (g : GP) (S0 : List O) (f : Int → Option Ac) (l : List Ent) (clk : Nat) (L : List Int) : Prop where
  ch : ChR g.cid g.mid S0 f l clk
  oc : g.oc < S0.length
  vid : g.vid < S0.length
  ne : g.oc ≠ g.vid
  k : S0[g.kc]? = some (.arr [.sl (i64s L)])
  c : S0[g.cc]? = some (.arr [.po g.cid 0])
  gg : S0[g.gc]? = some (.arr [gth g])
  n1 : ∀ i, i = g.cid ∨ i = g.mid ∨ i = g.kc ∨ i = g.cc ∨ i = g.gc → i ≠ g.oc ∧ i ≠ g.vid
section
variable {g : GP} {S0 J : List O} {f : Int → Option Ac} {l : List Ent} {clk : Nat} {L : List Int} {d : Array Int}
theorem gS_len : (gS g S0 d).length = S0.length := by simp [gS]
theorem gS_at (h : g.In S0 f l clk L) {i : Nat} {o : O} (hi : i = g.cid ∨ i = g.mid ∨ i = g.kc ∨ i = g.cc ∨ i = g.gc) (ho : S0[i]? = some o) : (gS g S0 d)[i]? = some o := by
  obtain ⟨a, b⟩ := h.n1 i hi
  rw [gS, List.getElem?_set_ne (Ne.symm b), List.getElem?_set_ne (Ne.symm a)]; exact ho
theorem gS_oc (h : g.In S0 f l clk L) : (gS g S0 d)[g.oc]? = some (.arr [.vec g.vid d.size 1]) := by
  rw [gS, List.getElem?_set_ne (Ne.symm h.ne), List.getElem?_set_self h.oc]
theorem gS_vid (h : g.In S0 f l clk L) : (gS g S0 d)[g.vid]? = some (VI d) := by
  rw [gS, List.getElem?_set_self (by rw [List.length_set]; exact h.vid)]
theorem gS_ch (h : g.In S0 f l clk L) : ChR g.cid g.mid (gS g S0 d) f l clk := ⟨gS_at h (by simp) h.ch.c, gS_at h (by simp) h.ch.m, h.ch.r⟩
theorem gS_push (h : g.In S0 f l clk L) (k : Int) : ((gS g S0 d).set g.vid (.vec (rowsV kD d.toList ++ [[D.int IntKind.i64 k]]) 3 1)).set g.oc (.arr [.vec g.vid (rowsV kD d.toList ++ [[D.int IntKind.i64 k]]).length 1]) = gS g S0 (d.push k) := by
  rw [show (rowsV kD d.toList ++ [[D.int IntKind.i64 k]]) = rowsV kD (d.push k).toList from rows_push d k, rowsV_len, Array.length_toList, gS, List.set_set, List.set_comm _ _ (Ne.symm h.ne), List.set_set]
  rfl
variable {fr : Fr} {n0 m0 : Nat} {T TK : Tks}
theorem gk_stO {x v : Opd} {k : Int} {K : FD → List O → List O → Tks → Tks → Prop} (h : g.In S0 f l clk L) (hn : S0.length = n0) (hm : T.length = m0) (hx : fev E0 fr x = .d (.po g.oc 0)) (hv : (fev E0 fr v).to n0 = .vec g.vid (rowsV kD d.toList ++ [[D.int IntKind.i64 k]]).length 1)
    (hK : K (.d .top) (gS g S0 (d.push k)) J T TK) : GK E0 n0 m0 (.st 1 x v) fr ((gS g S0 d).set g.vid (.vec (rowsV kD d.toList ++ [[D.int IntKind.i64 k]]) 3 1)) J T TK K := by
  refine gk_stpo_old (by rw [List.length_set, gS_len]; exact hn) hm hx (by rw [List.getElem?_set_ne (Ne.symm h.ne)]; exact gS_oc h) hv ⟨rfl, rfl, rfl, Nat.le_refl _⟩ ?_
  rw [show setC [D.vec g.vid d.size 1] 0 (D.vec g.vid (rowsV kD d.toList ++ [[D.int IntKind.i64 k]]).length 1).cs = [.vec g.vid (rowsV kD d.toList ++ [[D.int IntKind.i64 k]]).length 1] from rfl, gS_push h]
  exact hK
theorem GP.In.app (h : g.In S0 f l clk L) : g.In (S0 ++ J) f l clk L :=
  ⟨h.ch.app, by simp; have := h.oc; omega, by simp; have := h.vid; omega, h.ne, at_old h.k, at_old h.c, at_old h.gg, h.n1⟩
theorem gS_app (h : g.In S0 f l clk L) : gS g (S0 ++ J) d = gS g S0 d ++ J := by
  rw [gS, List.set_append_left _ _ h.oc, List.set_append_left _ _ (by rw [List.length_set]; exact h.vid)]; rfl
theorem gS_osc {n m : Nat} (h : g.In S0 f l clk L) (hn : S0.length = n) (d' : Array Int) (hO : OSc n m (gS g S0 d)) : OSc n m (gS g S0 d') := by
  have e : gS g S0 d' = ((gS g S0 d).set g.oc (.arr [.vec g.vid d'.size 1])).set g.vid (VI d') := by
    have h5 : ((S0.set g.oc (.arr [.vec g.vid d.size 1])).set g.vid (VI d)).set g.oc (.arr [.vec g.vid d'.size 1]) = (S0.set g.oc (.arr [.vec g.vid d'.size 1])).set g.vid (VI d) := by rw [List.set_comm _ _ (Ne.symm h.ne), List.set_set]
    rw [gS, gS, h5, List.set_set]
  rw [e]
  have := h.vid
  exact (hO.set (oSc_osc (by simp [oSc, scL, D.sc]; omega))).set (oSc_osc (by simp [oSc, VO, scLL_rows kE]))
end

structure GW where
  i : Nat
  d : Array Int
set_option maxHeartbeats 1000000 in
theorem gather {g : GP} {S0 : List O} {f : Int → Option Ac} {l : List Ent} {clk : Nat} {L : List Int} (h : g.In S0 f l clk L) (hLl : L.length < 1000000) : ∀ (n : Nat) (c : Int) (d : Array Int) (J : List O) (tk : Tks), deep f L n c → d.size + (pre f L n c).length < 1000000 →
    ACalls E0 62 [.int .i64 c, .po g.oc 0, .po g.kc 0, .po g.cc 0, .po g.gc 0] (gS g (S0 ++ J) d) tk (fun r S' tk' => r = .tup [] ∧ S' = gS g (S0 ++ J) (d ++ (pre f L n c).toArray) ∧ tk' = tk) := by
  intro n
  induction n with
  | zero => intro c d J tk hd; exact hd.elim
  | succ n ih =>
  intro c d J tk hd hsz
  have Llen := i64s_len L
  have hq : g.In (S0 ++ J) f l clk L := h.app
  refine ACalls.fgo c62 rfl fun hS => ?_
  repeat' first | with_reducible refine fzD_ite (fun q => ?_) (fun q => ?_) | ((try conv => whnf); first | refine bs_d (fun q => ?_) (fun q => ?_) | refine bs_n ?_ | refine bs_i (fun q => ?_) (fun q => ?_) | refine pK_i (ldO_old (gS_oc hq) rfl) ?_ | refine pK_i (ldO_old (gS_at hq (by simp) hq.k) rfl) ?_ | refine gk_appv_old rfl rfl rfl (gS_vid hq) (by rw [rowsV_len, Array.length_toList]) rfl (by simp) (by rw [rowsV_len, Array.length_toList]; simp [maxLen]; omega) ?_ | refine gk_stO (k := c) hq gS_len.symm rfl rfl rfl ?_ | refine eqk rfl ?_ | refine ffin _ rfl rfl hS (Sub.refl _) rfl ⟨?_, rfl, rfl⟩)
  have hfl : ∀ i, i < L.length → ((L.take i).flatMap fun k => if upF f k = c then pre f L n k else []).length + (if upF f L[i]! = c then pre f L n L[i]! else []).length ≤ (L.flatMap fun k => if upF f k = c then pre f L n k else []).length := fun i hi => by
    have e := congrArg List.length (congrArg (List.flatMap fun k => if upF f k = c then pre f L n k else []) (List.take_append_drop (i + 1) L))
    rw [List.flatMap_append, List.length_append, List.take_add_one, List.getElem?_eq_getElem hi, List.flatMap_append, List.length_append] at e
    rw [getElem!_pos L i hi]
    simp only [Option.toList_some, List.flatMap_cons, List.flatMap_nil, List.append_nil] at e
    omega
  simp only [pre, List.length_cons] at hsz
  refine floopS (α := GW) rfl (fun e => e.i ≤ L.length ∧ e.d = d.push c ++ ((L.take e.i).flatMap fun k => if upF f k = c then pre f L n k else []).toArray) (fun e => L.length - e.i) (fun e => [(14, .d (.int .i64 e.i)), (13, .d (.int .i64 L.length)), (12, .d (.sl (i64s L))), (0, .d (.int .i64 c)), (3, .d (.po g.cc 0)), (4, .d (.po g.gc 0))])
    (fun e => gS g (S0 ++ J) e.d) (fun _ => []) (fun _ => []) (fun e _ => ⟨gS_len.trans gS_len.symm, gS_osc hq gS_len.symm _ hS⟩) ⟨0, d.push c⟩ ⟨Nat.zero_le _, by simp⟩ rfl (fstep_sub ⟨Sub.refl _, Sub.int (by rw [Llen]), Sub.refl _, Sub.refl _, Sub.refl _, Sub.refl _, trivial⟩) ?_
  rintro e ⟨h1, h2⟩
  have hes : e.d.size = d.size + 1 + ((L.take e.i).flatMap fun k => if upF f k = c then pre f L n k else []).length := by rw [h2]; simp only [Array.size_append, Array.size_push, List.size_toArray]
  have iaK : ∀ {i : Nat} {n : Int}, n = i → i < L.length → iaD 1 (.sl (i64s L)) (.int .i64 n) = some (.pe [.int .i64 L[i]!] 0) := fun {i n} h hi => by
    subst h
    exact iaD_i64s (by omega) (by rw [Int.toNat_natCast, List.getElem?_eq_getElem hi, getElem!_pos L i hi])
  repeat' first | with_reducible refine fzD_ite (fun q => ?_) (fun q => ?_) | ((try conv => whnf); first | refine bs_d (fun q => ?_) (fun q => ?_) <;> (try simp (disch := ((try unfold I64); omega)) only [wi64_id, td] at q) | refine bs_n ?_ | refine bs_i (fun q => ?_) (fun q => ?_) | refine pK_i (iaK (i := e.i) (by first | rfl | omega | (refine Int.sub_eq_zero.mp ?_; simp (disch := ((try unfold I64); omega)) only [wi64_id, td]; omega)) (by omega)) ?_ | refine pK_i (ldO_old (gS_at hq (by simp) hq.c) rfl) ?_ | refine pK_i (ldO_old (gS_at hq (by simp) hq.gg) rfl) ?_ | refine pK_i (ldO_old (gS_ch hq).c rfl) ?_ | refine pK_i (mgA (gS_ch hq) _) ?_ | (refine ckG (by rw [List.append_nil, List.append_nil]; exact ih L[e.i]! e.d J tk (hd _ (by rw [getElem!_pos L e.i (by omega)]; exact List.getElem_mem _) (by assumption)) (by have := hfl e.i (by omega); rw [if_pos (show upF f L[e.i]! = c by assumption)] at this; omega)) ?_; rintro r S' tk' ⟨rfl, rfl, rfl⟩; refine ⟨_, [], _, [], (List.append_nil _).symm, (List.append_nil _).symm, gS_len.trans gS_len.symm, rfl, ?_⟩) | refine ffin (.tup []) (gS_len.trans gS_len.symm) rfl (gS_osc hq gS_len.symm _ hS) (Sub.refl _) rfl ⟨rfl, ?_, rfl⟩ | refine eqk rfl ?_ | refine ffin _ rfl rfl hS (Sub.refl _) rfl ⟨?_, rfl, rfl⟩)
  · have hi : e.i < L.length := by omega
    have hq1 : upF f L[e.i]! = c := by assumption
    conv => whnf
    refine fnextS (α := GW) ⟨e.i + 1, e.d ++ (pre f L n L[e.i]!).toArray⟩ ⟨by simp only; omega, ?_⟩ (by simp only; omega) rfl (fstep_sub ⟨Sub.int (by first | rfl | omega | (refine Int.sub_eq_zero.mp ?_; simp (disch := ((try unfold I64); omega)) only [wi64_id, td]; omega)), Sub.refl _, Sub.refl _, Sub.refl _, Sub.refl _, Sub.refl _, trivial⟩)
    simp only
    rw [List.take_add_one, List.getElem?_eq_getElem hi, List.flatMap_append, h2, ← getElem!_pos L e.i hi]
    simp only [Option.toList_some, List.flatMap_cons, List.flatMap_nil, List.append_nil, if_pos hq1]
    rw [Array.append_assoc]
    simp
  · have hi : e.i < L.length := by omega
    have hq1 : ¬ upF f L[e.i]! = c := by assumption
    conv => whnf
    refine fnextS (α := GW) ⟨e.i + 1, e.d⟩ ⟨by simp only; omega, ?_⟩ (by simp only; omega) rfl (fstep_sub ⟨Sub.int (by first | rfl | omega | (refine Int.sub_eq_zero.mp ?_; simp (disch := ((try unfold I64); omega)) only [wi64_id, td]; omega)), Sub.refl _, Sub.refl _, Sub.refl _, Sub.refl _, Sub.refl _, trivial⟩)
    simp only
    rw [List.take_add_one, List.getElem?_eq_getElem hi, List.flatMap_append, h2, ← getElem!_pos L e.i hi]
    simp only [Option.toList_some, List.flatMap_cons, List.flatMap_nil, List.append_nil, if_neg hq1]
  · rw [h2, List.take_of_length_le (by omega)]
    congr 1
    simp [pre]
theorem set_self {α : Type} {X : List α} {i : Nat} {o : α} (h : X[i]? = some o) : X.set i o = X := by
  obtain ⟨a, b⟩ := List.getElem?_eq_some_iff.1 h
  rw [← b, List.set_getElem_self]
structure UnderOf (f : Int → Option Ac) (L : List Int) (c : Int) (U : List Int) : Prop where
  no : f c = none → U = []
  yes : f c ≠ none → ∃ n, deep f L n c ∧ (pre f L n c).length < 1000000 ∧ (pre f L n c).Nodup ∧ U.Pairwise (· < ·) ∧ ∀ k, k ∈ U ↔ k ∈ pre f L n c
def unG (cid mid n : Nat) : GP := ⟨cid, mid, n + 2, n + 5, n + 3, n + 0, n + 4⟩
def unJ (cid : Nat) (g : GP) (a : Ac) (L : List Int) (n : Nat) (d : Array Int) : List O := [.arr [.po cid 0], .arr a.cs, .arr [.vec (n + 5) d.size 1], .arr [.sl (i64s L)], .arr [gth g], VI d]
theorem unJ_0 {cid mid : Nat} {S : List O} {a : Ac} {L : List Int} : gS (unG cid mid S.length) (S ++ unJ cid (unG cid mid S.length) a L S.length #[]) #[] = S ++ unJ cid (unG cid mid S.length) a L S.length #[] := by
  rw [gS]
  show ((S ++ _).set (S.length + 2) _).set (S.length + 5) _ = _
  rw [set_own rfl, set_own rfl]; rfl
theorem unJ_1 {cid mid : Nat} {S : List O} {a : Ac} {L : List Int} {d : Array Int} : gS (unG cid mid S.length) (S ++ unJ cid (unG cid mid S.length) a L S.length #[]) d = S ++ unJ cid (unG cid mid S.length) a L S.length d := by
  rw [gS]
  show ((S ++ _).set (S.length + 2) _).set (S.length + 5) _ = _
  rw [set_own rfl, set_own rfl]; rfl
section
variable {cid mid clk : Nat} {S : List O} {tk : Tks} {f : Int → Option Ac} {l : List Ent} {L : List Int}
theorem Sub.nilE : Sub .nilsl (.sl []) := Sub.rd rfl
set_option maxHeartbeats 1000000 in
theorem under_at (h : ChR cid mid S f l clk) (hN : l.length < 1000000) (hL : keysOf f L) (hLl : L.length < 1000000) (c : Int) {U : List Int} (hU : UnderOf f L c U) :
    ACalls E0 40 [.po cid 0, .int .i64 c] S tk (fun r S' tk' => r = .sl (i64s U) ∧ S' = S ∧ tk' = tk) := by
  have hcl : cid < S.length := (List.getElem?_eq_some_iff.1 h.c).1
  have hml : mid < S.length := (List.getElem?_eq_some_iff.1 h.m).1
  refine ACalls.fgoC c40 rfl [8] rfl fun hS => ?_
  repeat' first | with_reducible refine fzD_ite (fun q => ?_) (fun q => ?_) | ((try conv => whnf); first | refine bs_d (fun q => ?_) (fun q => ?_) | refine bs_n ?_ | refine bs_i (fun q => ?_) (fun q => ?_) | refine ckA rfl rfl (get_at h.app c) ?_ | refine pK_i (ldO_old h.c rfl) ?_ | refine ckA rfl rfl (keys_at h.app (by omega) hL) ?_ | refine ffin (.sl []) rfl rfl hS Sub.nilE rfl ⟨?_, rfl, rfl⟩ | refine eqk rfl ?_ | refine ffin _ rfl rfl hS (Sub.refl _) rfl ⟨?_, rfl, rfl⟩)
  · obtain ⟨n, hd, hp, hnd, hr, hm⟩ := hU.yes (fun hn => by simp_all)
    refine fcut (α := Unit) rfl (fun _ => True) (fun _ => [(9, .lp 4 0), (1, .d (.int .i64 c)), (7, .lp 2 0)]) (fun _ => S) (fun _ => [.arr [.po cid 0], .arr ((f c).getD noAc).cs, .arr [.vec (S.length + 5) 0 1], .arr [.sl (i64s L)], .arr [gth (unG cid mid S.length)], .vec [] 3 1]) (fun _ => []) (fun _ _ => ⟨rfl, hS⟩) ?_ fun _ _ => ?_
    · skip
      repeat' first | with_reducible refine fzD_ite (fun q => ?_) (fun q => ?_) | ((try conv => whnf); first | refine bs_d (fun q => ?_) (fun q => ?_) | refine bs_n ?_ | refine bs_i (fun q => ?_) (fun q => ?_) | refine eqk rfl ?_ | refine ffin _ rfl rfl hS (Sub.refl _) rfl ⟨?_, rfl, rfl⟩)
      refine fcnext (α := Unit) () trivial rfl (fstep_cellvec (k := 2) (cs := [.nilsl]) 3 1 rfl 0 rfl ⟨Sub.refl _, Sub.refl _, Sub.refl _, trivial⟩)
    have hIn : (unG cid mid S.length).In (S ++ unJ cid (unG cid mid S.length) ((f c).getD noAc) L S.length #[]) f l clk L :=
      ⟨h.app, by simp [unG, unJ], by simp [unG, unJ], by simp [unG], at_own rfl rfl, at_own rfl rfl, at_own rfl rfl, by intro i hi; simp only [unG] at hi ⊢; omega⟩
    have hG := gather hIn hLl n c #[] [] tk hd (by simpa using hp)
    rw [List.append_nil, unJ_0, Array.empty_append] at hG
    rw [unJ_1] at hG
    conv => whnf
    refine ckG (by rw [List.append_nil]; exact hG) ?_
    rintro r S' tk' ⟨rfl, rfl, rfl⟩
    refine ⟨S, unJ cid (unG cid mid S.length) ((f c).getD noAc) L S.length (pre f L n c).toArray, _, [], rfl, (List.append_nil _).symm, rfl, rfl, ?_⟩
    repeat' first | with_reducible refine fzD_ite (fun q => ?_) (fun q => ?_) | ((try conv => whnf); first | refine bs_d (fun q => ?_) (fun q => ?_) | refine bs_n ?_ | refine bs_i (fun q => ?_) (fun q => ?_) | (refine ckVEJ (k := 5) rfl rfl rfl (fun S0 tk h => sortV (S.length + 5) (pre f L n c).toArray.size (pre f L n c).toArray rfl (by rw [List.size_toArray]; omega) S0 tk h) (SubL.refl _) ?_; rintro r d' ⟨rfl, hs⟩; skip) | refine eqk rfl ?_ | refine ffin _ rfl rfl hS (Sub.refl _) rfl ⟨?_, rfl, rfl⟩)
    have hsl := Sorts.list hs
    rw [List.toList_toArray] at hsl
    have hUe : d'.toList = U := rising_ext (rising_of hsl.2 (hsl.1.nodup_iff.2 hnd)) hr fun k => by rw [hsl.1.mem_iff, hm]
    have e : (pre f L n c).toArray.size = (rowsV kD d'.toList).length := by rw [rowsV_len, Array.length_toList, hs.1.1]
    conv => whnf
    show FFin _ _ _ _ _ _ _ (.vec (S.length + 5) (pre f L n c).toArray.size 1) _
    rw [e]
    exact ffinV (d' := .top) (k := 5) rfl rfl hS rfl (scLL_rows kE _ _ _) ⟨by rw [hUe]; rfl, rfl, rfl⟩
  · have hn : f c = none := by
      cases hf : f c with
      | none => rfl
      | some a => simp_all
    rw [hU.no hn]; rfl
theorem under_nil (c : Int) : Pure 40 [.nilp, .int .i64 c] (.sl []) := by
  intro S tk
  refine ACalls.fgo c40 rfl fun hS => ?_
  repeat' first | with_reducible refine fzD_ite (fun q => ?_) (fun q => ?_) | ((try conv => whnf); first | refine bs_d (fun q => ?_) (fun q => ?_) | refine bs_n ?_ | refine bs_i (fun q => ?_) (fun q => ?_) | refine ckz (get_nil _) ?_ | refine cq (get_nil _) ?_ | refine ffin (.sl []) rfl rfl hS Sub.nilE rfl ⟨?_, rfl, rfl⟩ | refine eqk rfl ?_ | refine ffin _ rfl rfl hS (Sub.refl _) rfl ⟨?_, rfl, rfl⟩)
  all_goals rfl
theorem under_zero (h : S[cid]? = some (.arr [.nilmap])) (c : Int) : ACalls E0 40 [.po cid 0, .int .i64 c] S tk (fun r S' tk' => r = .sl [] ∧ S' = S ∧ tk' = tk) := by
  refine ACalls.fgo c40 rfl fun hS => ?_
  repeat' first | with_reducible refine fzD_ite (fun q => ?_) (fun q => ?_) | ((try conv => whnf); first | refine bs_d (fun q => ?_) (fun q => ?_) | refine bs_n ?_ | refine bs_i (fun q => ?_) (fun q => ?_) | refine ckA rfl rfl (get_zero (at_old h) c) ?_ | refine ffin (.sl []) rfl rfl hS Sub.nilE rfl ⟨?_, rfl, rfl⟩ | refine eqk rfl ?_ | refine ffin _ rfl rfl hS (Sub.refl _) rfl ⟨?_, rfl, rfl⟩)
  all_goals rfl
theorem leaf_at (h : ChR cid mid S f l clk) (hN : l.length < 1000000) (hL : keysOf f L) (hLl : L.length < 1000000) (c : Int) {U : List Int} (hU : UnderOf f L c U) :
    ACalls E0 75 [.po cid 0, .int .i64 c] S tk (fun r S' tk' => r = .bool (decide (U.length = 1)) ∧ S' = S ∧ tk' = tk) := by
  have hlen := i64s_len U
  refine ACalls.fgo c75 rfl fun hS => ?_
  repeat' first | with_reducible refine fzD_ite (fun q => ?_) (fun q => ?_) | ((try conv => whnf); first | refine bs_d (fun q => ?_) (fun q => ?_) | refine bs_n ?_ | refine bs_i (fun q => ?_) (fun q => ?_) | refine ckA rfl rfl (by rw [List.append_nil, List.append_nil]; exact under_at h hN hL hLl c hU) ?_ | refine eqk rfl ?_ | refine ffin _ rfl rfl hS (Sub.refl _) rfl ⟨?_, rfl, rfl⟩)
  all_goals simp only [tupD, D.bool.injEq]
  all_goals symm
  all_goals first
    | exact decide_eq_true (by omega)
    | exact decide_eq_false (by omega)
    | trace_state
theorem leaf_nil (c : Int) : Pure 75 [.nilp, .int .i64 c] (.bool false) := by
  intro S tk
  refine ACalls.fgo c75 rfl fun hS => ?_
  repeat' first | with_reducible refine fzD_ite (fun q => ?_) (fun q => ?_) | ((try conv => whnf); first | refine bs_d (fun q => ?_) (fun q => ?_) | refine bs_n ?_ | refine bs_i (fun q => ?_) (fun q => ?_) | refine ckz (under_nil _) ?_ | refine cq (under_nil _) ?_ | refine eqk rfl ?_ | refine ffin _ rfl rfl hS (Sub.refl _) rfl ⟨?_, rfl, rfl⟩)
  all_goals rfl
theorem leaf_zero (h : S[cid]? = some (.arr [.nilmap])) (c : Int) : ACalls E0 75 [.po cid 0, .int .i64 c] S tk (fun r S' tk' => r = .bool false ∧ S' = S ∧ tk' = tk) := by
  refine ACalls.fgo c75 rfl fun hS => ?_
  repeat' first | with_reducible refine fzD_ite (fun q => ?_) (fun q => ?_) | ((try conv => whnf); first | refine bs_d (fun q => ?_) (fun q => ?_) | refine bs_n ?_ | refine bs_i (fun q => ?_) (fun q => ?_) | refine ckA rfl rfl (under_zero (at_old h) c) ?_ | refine eqk rfl ?_ | refine ffin _ rfl rfl hS (Sub.refl _) rfl ⟨?_, rfl, rfl⟩)
  all_goals rfl
end
theorem c13 : cFun E0.P 13 = some ⟨72, [(4, none)], .seq (.rg [⟨some 3, none, .box (.t 1) 37⟩, ⟨some 4, none, .mv (.k (.int .i64 0))⟩]) (.seq (.block 0 (.seq (.rg [⟨some 10, none, .mv (.t 0)⟩, ⟨some 11, none, .call 31 [.t 10]⟩, ⟨some 9, none, .mv (.t 11)⟩]) (.cond (.t 9) (.seq (.rg [⟨some 4, none, .mv (.k (.int .i64 1))⟩]) .ret) (.seq (.rg [⟨some 13, none, .ld 5 true (.t 3)⟩, ⟨some 14, none, .call 37 [.t 13]⟩, ⟨some 15, none, .un .not (.t 14)⟩, ⟨some 12, none, .mv (.t 15)⟩]) (.cond (.t 12) (.seq (.rg [⟨some 4, none, .mv (.k (.int .i64 2))⟩]) .ret) .skip))))) (.seq (.seq (.rd [(⟨some 17, none, .mv (.t 0)⟩, none), (⟨some 18, none, .nilck (.t 17)⟩, none), (⟨some 19, none, .fa 0 (.t 18)⟩, none), (⟨some 20, none, .ld 1 false (.t 19)⟩, none), (⟨some 21, none, .fa 0 (.t 3)⟩, none), (⟨some 22, none, .ld 1 false (.t 21)⟩, none), (⟨some 23, none, .mget (KT.lf (KLf.i .i64)) (.agg [.int .i64 0, .int .i64 0, .int .u8 0, .str ⟨#[]⟩, .bool false]) true (.t 20) (.t 22)⟩, none), (⟨some 16, none, .mv (.t 23)⟩, none), (⟨some 24, none, .ext 0 (.t 16)⟩, none), (⟨some 25, none, .ext 1 (.t 16)⟩, none), (⟨some 5, none, .alloc [.int .i64 0, .int .i64 0, .int .u8 0, .str ⟨#[]⟩, .bool false] 37⟩, some [⟨some 20, none, .ld 1 false (.t 19)⟩, ⟨some 22, none, .ld 1 false (.t 21)⟩, ⟨some 23, none, .mget (KT.lf (KLf.i .i64)) (.agg [.int .i64 0, .int .i64 0, .int .u8 0, .str ⟨#[]⟩, .bool false]) true (.t 20) (.t 22)⟩]), (⟨none, none, .st 5 (.t 5) (.t 24)⟩, some []), (⟨some 6, none, .mv (.t 25)⟩, none)]) (.seq (.rg [⟨some 26, none, .mv (.t 6)⟩]) (.cond (.t 26) (.seq (.rg [⟨some 4, none, .mv (.k (.int .i64 8))⟩]) .ret) .skip))) (.seq (.rd [(⟨some 28, none, .mv (.t 0)⟩, none), (⟨some 29, none, .nilck (.t 28)⟩, none), (⟨some 30, none, .fa 0 (.t 29)⟩, none), (⟨some 31, none, .ld 1 false (.t 30)⟩, none), (⟨some 32, none, .fa 1 (.t 3)⟩, none), (⟨some 33, none, .ld 1 false (.t 32)⟩, none), (⟨some 34, none, .mget (KT.lf (KLf.i .i64)) (.agg [.int .i64 0, .int .i64 0, .int .u8 0, .str ⟨#[]⟩, .bool false]) true (.t 31) (.t 33)⟩, none), (⟨some 27, none, .mv (.t 34)⟩, none), (⟨some 35, none, .ext 0 (.t 27)⟩, none), (⟨some 36, none, .ext 1 (.t 27)⟩, none), (⟨some 7, none, .alloc [.int .i64 0, .int .i64 0, .int .u8 0, .str ⟨#[]⟩, .bool false] 37⟩, some [⟨some 31, none, .ld 1 false (.t 30)⟩, ⟨some 33, none, .ld 1 false (.t 32)⟩, ⟨some 34, none, .mget (KT.lf (KLf.i .i64)) (.agg [.int .i64 0, .int .i64 0, .int .u8 0, .str ⟨#[]⟩, .bool false]) true (.t 31) (.t 33)⟩]), (⟨none, none, .st 5 (.t 7) (.t 35)⟩, some []), (⟨some 8, none, .mv (.t 36)⟩, none)]) (.seq (.block 1 (.seq (.rg [⟨some 38, none, .fa 1 (.t 3)⟩, ⟨some 39, none, .ld 1 false (.t 38)⟩, ⟨some 40, none, .bin .neq .leaf (.t 39) (.k (.int .i64 0))⟩, ⟨some 41, none, .mv (.t 40)⟩, ⟨some 42, some (41, true), .mv (.t 8)⟩, ⟨some 43, some (41, true), .un .not (.t 42)⟩, ⟨some 44, none, .pick (.t 41) (.t 43) (.k (.bool false))⟩, ⟨some 37, none, .mv (.t 44)⟩]) (.cond (.t 37) (.seq (.rg [⟨some 4, none, .mv (.k (.int .i64 7))⟩]) .ret) (.seq (.rg [⟨some 46, none, .mv (.t 8)⟩, ⟨some 47, none, .mv (.t 46)⟩, ⟨some 48, some (47, true), .fa 4 (.t 7)⟩, ⟨some 49, some (47, true), .ld 1 false (.t 48)⟩, ⟨some 50, some (47, true), .mv (.t 49)⟩, ⟨some 51, some (50, false), .fa 2 (.t 7)⟩, ⟨some 52, some (50, false), .ld 1 false (.t 51)⟩, ⟨some 53, some (50, false), .fa 2 (.t 3)⟩, ⟨some 54, some (50, false), .ld 1 false (.t 53)⟩, ⟨some 55, some (50, false), .bin .neq .leaf (.t 52) (.t 54)⟩, ⟨some 56, some (47, true), .pick (.t 50) (.k (.bool true)) (.t 55)⟩, ⟨some 57, some (47, true), .mv (.t 56)⟩, ⟨some 58, some (57, false), .mv (.t 0)⟩, ⟨some 59, some (57, false), .fa 1 (.t 3)⟩, ⟨some 60, some (57, false), .ld 1 false (.t 59)⟩, ⟨some 61, some (57, false), .call 38 [.t 58, .t 60]⟩, ⟨some 62, some (57, false), .bin .geq .leaf (.t 61) (.k (.int .i64 8))⟩, ⟨some 63, some (47, true), .pick (.t 57) (.k (.bool true)) (.t 62)⟩, ⟨some 64, none, .pick (.t 47) (.t 63) (.k (.bool false))⟩, ⟨some 45, none, .mv (.t 64)⟩]) (.cond (.t 45) (.seq (.rg [⟨some 4, none, .mv (.k (.int .i64 9))⟩]) .ret) .skip))))) (.seq (.rd [(⟨some 65, none, .mv (.t 0)⟩, none), (⟨some 66, none, .nilck (.t 65)⟩, none), (⟨some 67, none, .fa 0 (.t 66)⟩, none), (⟨some 68, none, .ld 1 false (.t 67)⟩, none), (⟨some 69, none, .fa 0 (.t 3)⟩, none), (⟨some 70, none, .ld 1 false (.t 69)⟩, none), (⟨some 71, none, .ld 5 true (.t 3)⟩, none), (⟨none, none, .mset (KT.lf (KLf.i .i64)) (.t 68) (.t 70) (.t 71)⟩, some [])]) (.seq (.rg [⟨some 4, none, .mv (.k (.int .i64 0))⟩]) .ret))))))⟩ := by kernel_rfl
theorem c14 : cFun E0.P 14 = some ⟨45, [(4, none)], .seq (.rg [⟨some 4, none, .mv (.k (.int .i64 0))⟩]) (.seq (.rg [⟨some 10, none, .mv (.t 0)⟩, ⟨some 11, none, .mv (.t 1)⟩, ⟨some 12, none, .call 39 [.t 10, .t 11]⟩, ⟨some 9, none, .mv (.t 12)⟩, ⟨some 13, none, .ext 0 (.t 9)⟩, ⟨some 14, none, .ext 1 (.t 9)⟩, ⟨some 5, none, .alloc [.int .i64 0, .int .i64 0, .int .u8 0, .str ⟨#[]⟩, .bool false] 37⟩, ⟨none, none, .st 5 (.t 5) (.t 13)⟩, ⟨some 6, none, .mv (.t 14)⟩]) (.seq (.seq (.rg [⟨some 15, none, .mv (.t 6)⟩, ⟨some 16, none, .bin .neq .leaf (.t 15) (.k (.int .i64 0))⟩]) (.cond (.t 16) (.seq (.rg [⟨some 17, none, .mv (.t 6)⟩, ⟨some 4, none, .mv (.t 17)⟩]) .ret) .skip)) (.seq (.seq (.rg [⟨some 18, none, .mv (.t 0)⟩, ⟨some 19, none, .mv (.t 1)⟩, ⟨some 20, none, .call 40 [.t 18, .t 19]⟩, ⟨some 21, none, .len 1 (.t 20)⟩, ⟨some 22, none, .mv (.k (.int .i64 0))⟩]) (.block 0 (.loop (.seq (.rg [⟨some 23, none, .bin .lss .leaf (.t 22) (.t 21)⟩]) (.seq (.cond (.t 23) .skip (.exit 0)) (.seq (.block 1 (.seq (.rg [⟨some 24, none, .ia 1 (.t 20) (.t 22)⟩, ⟨some 25, none, .ld 1 false (.t 24)⟩, ⟨some 8, none, .mv (.t 25)⟩]) (.seq (.rg [⟨some 26, none, .mv (.t 8)⟩, ⟨some 27, none, .mv (.t 1)⟩, ⟨some 28, none, .bin .eql .leaf (.t 26) (.t 27)⟩, ⟨some 29, none, .mv (.t 0)⟩, ⟨some 30, none, .nilck (.t 29)⟩, ⟨some 31, none, .fa 0 (.t 30)⟩, ⟨some 32, none, .ld 1 false (.t 31)⟩, ⟨some 33, none, .mv (.t 8)⟩, ⟨some 34, none, .mget (KT.lf (KLf.i .i64)) (.agg [.int .i64 0, .int .i64 0, .int .u8 0, .str ⟨#[]⟩, .bool false]) false (.t 32) (.t 33)⟩, ⟨some 35, none, .fd 4 1 false (.t 34)⟩, ⟨some 36, none, .bin .eql .leafB (.t 28) (.t 35)⟩]) (.cond (.t 36) (.seq (.rg [⟨some 4, none, .mv (.k (.int .i64 9))⟩]) .ret) .skip)))) (.rg [⟨some 37, none, .bin .add .leaf (.t 22) (.k (.int .i64 1))⟩, ⟨some 22, none, .mv (.t 37)⟩]))))))) (.seq (.rg [⟨some 38, none, .fa 4 (.t 5)⟩, ⟨none, none, .st 1 (.t 38) (.k (.bool true))⟩]) (.seq (.rd [(⟨some 39, none, .mv (.t 0)⟩, none), (⟨some 40, none, .nilck (.t 39)⟩, none), (⟨some 41, none, .fa 0 (.t 40)⟩, none), (⟨some 42, none, .ld 1 false (.t 41)⟩, none), (⟨some 43, none, .mv (.t 1)⟩, none), (⟨some 44, none, .ld 5 true (.t 5)⟩, none), (⟨none, none, .mset (KT.lf (KLf.i .i64)) (.t 42) (.t 43) (.t 44)⟩, some [])]) (.seq (.rg [⟨some 4, none, .mv (.k (.int .i64 0))⟩]) .ret))))))⟩ := by kernel_rfl

def addE (f : Int → Option Ac) (n : Nat) (a : Ac) : Int :=
  if mayA a then
    if (f a.code).isSome = true then 8
    else if a.up ≠ 0 ∧ (f a.up).isSome = false then 7
    else if (f a.up).isSome = true ∧ (((f a.up).getD noAc).sh = true ∨ ((f a.up).getD noAc).cl ≠ a.cl ∨ 8 ≤ (n : Int)) then 9
    else 0
  else 2
section
variable {f : Int → Option Ac} {n : Nat} {a : Ac}
theorem addE_2 (h : ¬ mayA a) : addE f n a = 2 := if_neg h
theorem addE_8 (h : mayA a) (h1 : (f a.code).isSome = true) : addE f n a = 8 := by rw [addE, if_pos h, if_pos h1]
theorem addE_7 (h : mayA a) (h1 : (f a.code).isSome = false) (h2 : (f a.up).isSome = false) (h3 : ¬ a.up = 0) : addE f n a = 7 := by
  rw [addE, if_pos h, if_neg (by rw [h1]; simp), if_pos ⟨h3, h2⟩]
theorem addE_9 (h : mayA a) (h1 : (f a.code).isSome = false) (h2 : (f a.up).isSome = true) (h3 : ((f a.up).getD noAc).sh = true ∨ ¬ ((f a.up).getD noAc).cl = a.cl ∨ 8 ≤ (n : Int)) : addE f n a = 9 := by
  rw [addE, if_pos h, if_neg (by rw [h1]; simp), if_neg (by rintro ⟨_, hh⟩; rw [h2] at hh; cases hh), if_pos ⟨h2, h3⟩]
theorem addE_0a (h : mayA a) (h1 : (f a.code).isSome = false) (h2 : (f a.up).isSome = false) (h3 : a.up = 0) : addE f n a = 0 := by
  rw [addE, if_pos h, if_neg (by rw [h1]; simp), if_neg (fun hh => hh.1 h3), if_neg (by rintro ⟨hh, _⟩; rw [h2] at hh; cases hh)]
theorem addE_0b (h : mayA a) (h1 : (f a.code).isSome = false) (h2 : (f a.up).isSome = true) (h3 : ((f a.up).getD noAc).sh = false) (h4 : ((f a.up).getD noAc).cl = a.cl) (h5 : ¬ 8 ≤ (n : Int)) : addE f n a = 0 := by
  rw [addE, if_pos h, if_neg (by rw [h1]; simp), if_neg (by rintro ⟨_, hh⟩; rw [h2] at hh; cases hh), if_neg (by rintro ⟨_, hh | hh | hh⟩; rw [h3] at hh; cases hh; exact hh h4; exact h5 hh)]
end
theorem acD_sc (n m : Nat) (a : Ac) : (acD a).sc n m = true := rfl
theorem getE_self : ∀ {l : List Ent}, (l.map (·.1)).Nodup → ∀ e ∈ l, getE l e.1 = some e.2.1
  | [], _, e, h => by simp at h
  | a :: r, hn, e, h => by
    simp only [List.map_cons, List.nodup_cons] at hn
    rcases List.mem_cons.1 h with rfl | h
    · simp [getE]
    · rw [getE, if_neg (fun (he : e.1 = a.1) => hn.1 (he ▸ List.mem_map_of_mem (f := (·.1)) h)), getE_self hn.2 e h]
theorem MapR.scA {l : List Ent} {clk : Nat} {f : Int → Option Ac} (h : MapR acD l clk f) (n m : Nat) : oSc n m (.map ktI (entKv l) clk) = true := by
  simp only [oSc, entKv, List.all_map, List.all_eq_true]
  intro e he
  have h1 := getE_self h.nd e he
  rw [h.get] at h1
  obtain ⟨d, _, hd⟩ := Option.map_eq_some_iff.1 h1
  simp only [Function.comp]
  rw [← hd, acD_sc]
  rfl
section
variable {cid mid clk : Nat} {S J : List O} {tk : Tks} {f : Int → Option Ac} {l : List Ent} {L : List Int}
variable {fr : Fr} {n0 m0 : Nat} {T TK : Tks}
def setC' (mid : Nat) (l : List Ent) (clk : Nat) (k : Int) (a : Ac) (S : List O) : List O := S.set mid (.map ktI (entKv (setE l clk k (acD a))) (clkE l clk k))
theorem gk_msA {x k v : Opd} {key : Int} {a : Ac} {K : FD → List O → List O → Tks → Tks → Prop} (h : ChR cid mid S f l clk) (hn : S.length = n0) (hm : T.length = m0) (hx : fev E0 fr x = .d (.map mid)) (hk : (fev E0 fr k).to n0 = kD key) (hv : (fev E0 fr v).to n0 = acD a)
    (hK : K (.d .top) (setC' mid l clk key a S) J T TK) : GK E0 n0 m0 (.mset ktI x k v) fr S J T TK K := by
  refine gk_mset_old hn hm hx h.m (by rw [hk]; rfl) ?_
  rw [hk, hv, mset_entKv, mclk_entKv]
  exact hK
theorem setC'_osc {n m : Nat} {k : Int} {a : Ac} (h : ChR cid mid S f l clk) (hO : OSc n m S) : OSc n m (setC' mid l clk k a S) := hO.set (oSc_osc (MapR.scA (h.r.set k a) n m))
def addS (mid : Nat) (l : List Ent) (clk : Nat) (f : Int → Option Ac) (n : Nat) (a : Ac) (S : List O) : List O := if addE f n a = 0 then setC' mid l clk a.code a S else S
set_option maxHeartbeats 1000000 in
theorem add_at (h : ChR cid mid S f l clk) (a : Ac) (n : Nat) (hn : n < 1000000) (hd : (f a.up).isSome = true → climb f n a.up = 0 ∧ ∀ i, i < n → climb f i a.up ≠ 0) :
    ACalls E0 13 [.po cid 0, acD a] S tk (fun r S' tk' => r = .int .i64 (addE f n a) ∧ S' = addS mid l clk f n a S ∧ tk' = tk) := by
  refine ACalls.fgo c13 rfl fun hS => ?_
  repeat' first | with_reducible refine fzD_ite (fun q => ?_) (fun q => ?_) | ((try conv => whnf); first | refine bs_d (fun q => ?_) (fun q => ?_) | refine bs_n ?_ | refine bs_i (fun q => ?_) (fun q => ?_) | refine ckz (chMay a) ?_ | refine cq (chMay a) ?_ | refine ckA rfl rfl (none_at h.app) ?_ | refine pK_i (ldO_old h.c rfl) ?_ | refine pK_i (mgB h _) ?_ | refine ckA rfl rfl (depth_at h.app a.up n (by omega) (hd (by assumption)).1 (hd (by assumption)).2) ?_ | refine gk_msA (key := a.code) (a := a) h rfl rfl rfl rfl rfl ?_ | refine ffin _ rfl rfl hS (Sub.refl _) rfl ⟨?_, ?_, rfl⟩ | refine ffin _ (by simp [setC']) rfl (setC'_osc h hS) (Sub.refl _) rfl ⟨?_, ?_, rfl⟩ | refine eqk rfl ?_ | refine ffin _ rfl rfl hS (Sub.refl _) rfl ⟨?_, rfl, rfl⟩)
  all_goals first
    | exact congrArg (D.int .i64) (Eq.symm (addE_2 (by assumption)))
    | exact (if_neg (show ¬ addE f n a = 0 by rw [addE_2 (by assumption)]; decide)).symm
    | exact (if_pos (show addE f n a = 0 from (addE_2 (by assumption)))).symm
    | exact congrArg (D.int .i64) (Eq.symm (addE_8 (by assumption) (by assumption)))
    | exact (if_neg (show ¬ addE f n a = 0 by rw [addE_8 (by assumption) (by assumption)]; decide)).symm
    | exact (if_pos (show addE f n a = 0 from (addE_8 (by assumption) (by assumption)))).symm
    | exact congrArg (D.int .i64) (Eq.symm (addE_7 (by assumption) (by assumption) (by assumption) (by assumption)))
    | exact (if_neg (show ¬ addE f n a = 0 by rw [addE_7 (by assumption) (by assumption) (by assumption) (by assumption)]; decide)).symm
    | exact (if_pos (show addE f n a = 0 from (addE_7 (by assumption) (by assumption) (by assumption) (by assumption)))).symm
    | exact congrArg (D.int .i64) (Eq.symm (addE_9 (by assumption) (by assumption) (by assumption) (.inl (by assumption))))
    | exact (if_neg (show ¬ addE f n a = 0 by rw [addE_9 (by assumption) (by assumption) (by assumption) (.inl (by assumption))]; decide)).symm
    | exact (if_pos (show addE f n a = 0 from (addE_9 (by assumption) (by assumption) (by assumption) (.inl (by assumption))))).symm
    | exact congrArg (D.int .i64) (Eq.symm (addE_9 (by assumption) (by assumption) (by assumption) (.inr (.inl (by assumption)))))
    | exact (if_neg (show ¬ addE f n a = 0 by rw [addE_9 (by assumption) (by assumption) (by assumption) (.inr (.inl (by assumption)))]; decide)).symm
    | exact (if_pos (show addE f n a = 0 from (addE_9 (by assumption) (by assumption) (by assumption) (.inr (.inl (by assumption)))))).symm
    | exact congrArg (D.int .i64) (Eq.symm (addE_9 (by assumption) (by assumption) (by assumption) (.inr (.inr (by assumption)))))
    | exact (if_neg (show ¬ addE f n a = 0 by rw [addE_9 (by assumption) (by assumption) (by assumption) (.inr (.inr (by assumption)))]; decide)).symm
    | exact (if_pos (show addE f n a = 0 from (addE_9 (by assumption) (by assumption) (by assumption) (.inr (.inr (by assumption)))))).symm
    | exact congrArg (D.int .i64) (Eq.symm (addE_0a (by assumption) (by assumption) (by assumption) (by assumption)))
    | exact (if_neg (show ¬ addE f n a = 0 by rw [addE_0a (by assumption) (by assumption) (by assumption) (by assumption)]; decide)).symm
    | exact (if_pos (show addE f n a = 0 from (addE_0a (by assumption) (by assumption) (by assumption) (by assumption)))).symm
    | exact congrArg (D.int .i64) (Eq.symm (addE_0b (by assumption) (by assumption) (by assumption) (by assumption) (by assumption) (by assumption)))
    | exact (if_neg (show ¬ addE f n a = 0 by rw [addE_0b (by assumption) (by assumption) (by assumption) (by assumption) (by assumption) (by assumption)]; decide)).symm
    | exact (if_pos (show addE f n a = 0 from (addE_0b (by assumption) (by assumption) (by assumption) (by assumption) (by assumption) (by assumption)))).symm
theorem add_nil (a : Ac) : Pure 13 [.nilp, acD a] (.int .i64 1) := by
  intro S tk
  refine ACalls.fgo c13 rfl fun hS => ?_
  repeat' first | with_reducible refine fzD_ite (fun q => ?_) (fun q => ?_) | ((try conv => whnf); first | refine bs_d (fun q => ?_) (fun q => ?_) | refine bs_n ?_ | refine bs_i (fun q => ?_) (fun q => ?_) | refine ckz (none_nil) ?_ | refine cq (none_nil) ?_ | refine eqk rfl ?_ | refine ffin _ rfl rfl hS (Sub.refl _) rfl ⟨?_, rfl, rfl⟩)
  all_goals rfl
theorem add_zero (h : S[cid]? = some (.arr [.nilmap])) (a : Ac) : ACalls E0 13 [.po cid 0, acD a] S tk (fun r S' tk' => r = .int .i64 1 ∧ S' = S ∧ tk' = tk) := by
  refine ACalls.fgo c13 rfl fun hS => ?_
  repeat' first | with_reducible refine fzD_ite (fun q => ?_) (fun q => ?_) | ((try conv => whnf); first | refine bs_d (fun q => ?_) (fun q => ?_) | refine bs_n ?_ | refine bs_i (fun q => ?_) (fun q => ?_) | refine ckA rfl rfl (none_zero (at_old h)) ?_ | refine eqk rfl ?_ | refine ffin _ rfl rfl hS (Sub.refl _) rfl ⟨?_, rfl, rfl⟩)
  all_goals rfl

def badK (f : Int → Option Ac) (c k : Int) : Bool := decide (k = c) == ((f k).getD noAc).sh
def shutE (f : Int → Option Ac) (U : List Int) (c : Int) : Int := if (f c).isSome = true then (if U.any (badK f c) = true then 9 else 0) else 7
def shutS (mid : Nat) (l : List Ent) (clk : Nat) (f : Int → Option Ac) (U : List Int) (c : Int) (S : List O) : List O := if shutE f U c = 0 then setC' mid l clk c { (f c).getD noAc with sh := true } S else S
set_option maxHeartbeats 1000000 in
theorem shut_at (h : ChR cid mid S f l clk) (hN : l.length < 1000000) (hL : keysOf f L) (hLl : L.length < 1000000) (c : Int) {U : List Int} (hU : UnderOf f L c U) :
    ACalls E0 14 [.po cid 0, .int .i64 c] S tk (fun r S' tk' => r = .int .i64 (shutE f U c) ∧ S' = shutS mid l clk f U c S ∧ tk' = tk) := by
  have hlen := i64s_len U
  refine ACalls.fgo c14 rfl fun hS => ?_
  repeat' first | with_reducible refine fzD_ite (fun q => ?_) (fun q => ?_) | ((try conv => whnf); first | refine bs_d (fun q => ?_) (fun q => ?_) | refine bs_n ?_ | refine bs_i (fun q => ?_) (fun q => ?_) | refine ckA rfl rfl (get_at h.app c) ?_ | refine ckA rfl rfl (under_at h.app hN hL hLl c hU) ?_ | refine ffin _ rfl rfl hS (Sub.refl _) rfl ⟨?_, ?_, rfl⟩ | refine eqk rfl ?_ | refine ffin _ rfl rfl hS (Sub.refl _) rfl ⟨?_, rfl, rfl⟩)
  · have hf : (f c).isSome = true := by
      cases hf : (f c).isSome with
      | true => rfl
      | false => simp_all
    have hUl : U.length < 1000000 := by
      obtain ⟨n, _, hp, hnd, hr, hm⟩ := hU.yes (fun hn => by rw [hn] at hf; cases hf)
      rw [((List.perm_ext_iff_of_nodup (hr.imp fun h => by omega) hnd).2 hm).length_eq]; exact hp
    refine floop (α := Nat) rfl rfl hS (fun i => i ≤ U.length ∧ (U.take i).any (badK f c) = false) (fun i => U.length - i) (fun i => [(22, .d (.int .i64 i)), (21, .d (.int .i64 U.length)), (20, .d (.sl (i64s U))), (0, .d (.po cid 0)), (1, .d (.int .i64 c)), (5, .lp 0 0)]) (fun _ => [.arr ((f c).getD noAc).cs]) (fun _ => []) 0 ⟨Nat.zero_le _, by simp⟩ ?_ ?_
    · exact fstep_sub ⟨Sub.refl _, Sub.int (by rw [hlen]), Sub.refl _, Sub.refl _, Sub.refl _, Sub.refl _, trivial⟩
    rintro i ⟨h1, h2⟩
    have iaK : ∀ {i : Nat} {n : Int}, n = i → i < U.length → iaD 1 (.sl (i64s U)) (.int .i64 n) = some (.pe [.int .i64 U[i]!] 0) := fun {i n} h hi => by
      subst h
      exact iaD_i64s (by omega) (by rw [Int.toNat_natCast, List.getElem?_eq_getElem hi, getElem!_pos U i hi])
    have bT : ∀ k, badK f c k = true → k ∈ U → shutE f U c = 9 := fun k hk hm => by rw [shutE, if_pos hf, if_pos (List.any_eq_true.2 ⟨k, hm, hk⟩)]
    have mU : ∀ {i : Nat}, i < U.length → U[i]! ∈ U := fun {i} hi => by rw [getElem!_pos U i hi]; exact List.getElem_mem _
    have b1 : ∀ {i : Nat}, U[i]! = c → ((f U[i]!).getD noAc).sh = true → badK f c U[i]! = true := fun hk hs => by rw [badK, decide_eq_true hk, hs]; rfl
    have b2 : ∀ {i : Nat}, ¬ U[i]! = c → ((f U[i]!).getD noAc).sh = false → badK f c U[i]! = true := fun hk hs => by rw [badK, decide_eq_false hk, hs]; rfl
    have b3 : ∀ {i : Nat}, U[i]! = c → ((f U[i]!).getD noAc).sh = false → badK f c U[i]! = false := fun hk hs => by rw [badK, decide_eq_true hk, hs]; rfl
    have b4 : ∀ {i : Nat}, ¬ U[i]! = c → ((f U[i]!).getD noAc).sh = true → badK f c U[i]! = false := fun hk hs => by rw [badK, decide_eq_false hk, hs]; rfl
    have st : ∀ {i : Nat}, i < U.length → (U.take i).any (badK f c) = false → badK f c U[i]! = false → (U.take (i + 1)).any (badK f c) = false := fun {i} hi h1 h2 => by
      rw [List.take_add_one, List.getElem?_eq_getElem hi, ← getElem!_pos U i hi, List.any_append, h1]
      simp only [Option.toList_some, List.any_cons, List.any_nil, h2, Bool.or_self]
    repeat' first | with_reducible refine fzD_ite (fun q => ?_) (fun q => ?_) | ((try conv => whnf); first | refine bs_d (fun q => ?_) (fun q => ?_) <;> (try simp (disch := ((try unfold I64); omega)) only [wi64_id, td] at q) | refine bs_n ?_ | refine bs_i (fun q => ?_) (fun q => ?_) | refine pK_i (iaK (i := i) (by first | rfl | omega | (refine Int.sub_eq_zero.mp ?_; simp (disch := ((try unfold I64); omega)) only [wi64_id, td]; omega)) (by omega)) ?_ | refine pK_i (ldO_old h.c rfl) ?_ | refine pK_i (mgA h _) ?_ | refine gk_msA (key := c) (a := { (f c).getD noAc with sh := true }) h rfl rfl rfl rfl rfl ?_ | refine ffin _ rfl rfl hS (Sub.refl _) rfl ⟨?_, ?_, rfl⟩ | refine ffin _ (by simp [setC']) rfl (setC'_osc h hS) (Sub.refl _) rfl ⟨?_, ?_, rfl⟩ | refine eqk rfl ?_ | refine ffin _ rfl rfl hS (Sub.refl _) rfl ⟨?_, rfl, rfl⟩)
    · exact congrArg (D.int .i64) (bT _ (b1 (by assumption) (by assumption)) (mU (by omega))).symm
    · exact (if_neg (show ¬ shutE f U c = 0 by rw [bT _ (b1 (by assumption) (by assumption)) (mU (by omega))]; decide)).symm
    · conv => whnf
      refine fnext (α := Nat) (i + 1) ⟨by omega, st (by omega) h2 (b3 (by assumption) (by assumption))⟩ (by omega) (fstep_sub ⟨Sub.int (by rw [wi64_id]; omega; unfold I64; omega), Sub.refl _, Sub.refl _, Sub.refl _, Sub.refl _, Sub.refl _, trivial⟩)
    · conv => whnf
      refine fnext (α := Nat) (i + 1) ⟨by omega, st (by omega) h2 (b4 (by assumption) (by assumption))⟩ (by omega) (fstep_sub ⟨Sub.int (by rw [wi64_id]; omega; unfold I64; omega), Sub.refl _, Sub.refl _, Sub.refl _, Sub.refl _, Sub.refl _, trivial⟩)
    · exact congrArg (D.int .i64) (bT _ (b2 (by assumption) (by assumption)) (mU (by omega))).symm
    · exact (if_neg (show ¬ shutE f U c = 0 by rw [bT _ (b2 (by assumption) (by assumption)) (mU (by omega))]; decide)).symm
    all_goals (rw [List.take_of_length_le (by omega)] at h2)
    all_goals (have e0 : shutE f U c = 0 := by rw [shutE, if_pos hf, if_neg (by rw [h2]; simp)])
    · exact congrArg (D.int .i64) e0.symm
    · exact (if_pos e0).symm
  all_goals (have hn : (f c).isSome = false := Bool.eq_false_iff.2 fun h => by simp_all)
  all_goals (have e7 : shutE f U c = 7 := by rw [shutE, if_neg (by rw [hn]; simp)])
  · rw [e7, hn]; rfl
  · exact (if_neg (show ¬ shutE f U c = 0 by rw [e7]; decide)).symm
theorem shut_nil (c : Int) : Pure 14 [.nilp, .int .i64 c] (.int .i64 1) := by
  intro S tk
  refine ACalls.fgo c14 rfl fun hS => ?_
  repeat' first | with_reducible refine fzD_ite (fun q => ?_) (fun q => ?_) | ((try conv => whnf); first | refine bs_d (fun q => ?_) (fun q => ?_) | refine bs_n ?_ | refine bs_i (fun q => ?_) (fun q => ?_) | refine ckz (get_nil _) ?_ | refine cq (get_nil _) ?_ | refine eqk rfl ?_ | refine ffin _ rfl rfl hS (Sub.refl _) rfl ⟨?_, rfl, rfl⟩)
  all_goals rfl
theorem shut_zero (h : S[cid]? = some (.arr [.nilmap])) (c : Int) : ACalls E0 14 [.po cid 0, .int .i64 c] S tk (fun r S' tk' => r = .int .i64 1 ∧ S' = S ∧ tk' = tk) := by
  refine ACalls.fgo c14 rfl fun hS => ?_
  repeat' first | with_reducible refine fzD_ite (fun q => ?_) (fun q => ?_) | ((try conv => whnf); first | refine bs_d (fun q => ?_) (fun q => ?_) | refine bs_n ?_ | refine bs_i (fun q => ?_) (fun q => ?_) | refine ckA rfl rfl (get_zero (at_old h) c) ?_ | refine eqk rfl ?_ | refine ffin _ rfl rfl hS (Sub.refl _) rfl ⟨?_, rfl, rfl⟩)
  all_goals rfl
end
theorem c9 : cFun E0.P 9 = some ⟨29, [(2, none)], .seq (.rg [⟨some 2, none, .mv (.k .nilsl)⟩]) (.seq (.seq (.rg [⟨some 6, none, .mv (.t 0)⟩, ⟨some 7, none, .call 31 [.t 6]⟩]) (.cond (.t 7) (.seq (.rg [⟨some 2, none, .mv (.k .nilsl)⟩]) .ret) .skip)) (.seq (.rg [⟨some 3, none, .mv (.k .nilsl)⟩]) (.seq (.seq (.rg [⟨some 8, none, .mv (.t 0)⟩, ⟨some 9, none, .nilck (.t 8)⟩, ⟨some 10, none, .fa 0 (.t 9)⟩, ⟨some 11, none, .ld 1 false (.t 10)⟩, ⟨some 12, none, .call 32 [.t 11]⟩, ⟨some 13, none, .len 1 (.t 12)⟩, ⟨some 14, none, .mv (.k (.int .i64 0))⟩]) (.block 0 (.loop (.seq (.rg [⟨some 15, none, .bin .lss .leaf (.t 14) (.t 13)⟩]) (.seq (.cond (.t 15) .skip (.exit 0)) (.seq (.block 1 (.seq (.rg [⟨some 16, none, .ia 1 (.t 12) (.t 14)⟩, ⟨some 17, none, .ld 1 false (.t 16)⟩, ⟨some 5, none, .mv (.t 17)⟩]) (.rg [⟨some 18, none, .mv (.t 3)⟩, ⟨some 19, none, .mv (.t 0)⟩, ⟨some 20, none, .nilck (.t 19)⟩, ⟨some 21, none, .fa 0 (.t 20)⟩, ⟨some 22, none, .ld 1 false (.t 21)⟩, ⟨some 23, none, .mv (.t 5)⟩, ⟨some 24, none, .mget (KT.lf (KLf.i .i64)) (.agg [.int .i64 0, .int .i64 0, .int .u8 0, .str ⟨#[]⟩, .bool false]) false (.t 22) (.t 23)⟩, ⟨some 25, none, .buildS 1 5 [.int .i64 0, .int .i64 0, .int .u8 0, .str ⟨#[]⟩, .bool false] [(0, .t 24)] 37⟩, ⟨some 26, none, .app 42 37 5 48 [.int .i64 0, .int .i64 0, .int .u8 0, .str ⟨#[]⟩, .bool false] (.t 18) (.t 25)⟩, ⟨some 3, none, .mv (.t 26)⟩]))) (.rg [⟨some 27, none, .bin .add .leaf (.t 14) (.k (.int .i64 1))⟩, ⟨some 14, none, .mv (.t 27)⟩]))))))) (.seq (.rg [⟨some 28, none, .mv (.t 3)⟩, ⟨some 2, none, .mv (.t 28)⟩]) .ret))))⟩ := by kernel_rfl
theorem c27 : cFun E0.P 27 = some ⟨8, [(0, none)], .seq (.rg [⟨some 0, none, .mv (.k .nilsl)⟩]) (.seq (.rg [⟨some 1, none, .build [.int .i64 0, .int .i64 0, .int .u8 0, .str ⟨#[]⟩, .bool false] [(0, 1, .k (.int .i64 1100)), (2, 1, .k (.int .u8 1)), (3, 1, .k (.str ⟨#[67, 97, 115, 104]⟩))]⟩, ⟨some 2, none, .build [.int .i64 0, .int .i64 0, .int .u8 0, .str ⟨#[]⟩, .bool false] [(0, 1, .k (.int .i64 1200)), (2, 1, .k (.int .u8 1)), (3, 1, .k (.str ⟨#[82, 101, 99, 101, 105, 118, 97, 98, 108, 101]⟩))]⟩, ⟨some 3, none, .build [.int .i64 0, .int .i64 0, .int .u8 0, .str ⟨#[]⟩, .bool false] [(0, 1, .k (.int .i64 2100)), (2, 1, .k (.int .u8 2)), (3, 1, .k (.str ⟨#[68, 101, 102, 101, 114, 114, 101, 100]⟩))]⟩, ⟨some 4, none, .build [.int .i64 0, .int .i64 0, .int .u8 0, .str ⟨#[]⟩, .bool false] [(0, 1, .k (.int .i64 2200)), (2, 1, .k (.int .u8 2)), (3, 1, .k (.str ⟨#[85, 110, 97, 112, 112, 108, 105, 101, 100]⟩))]⟩, ⟨some 5, none, .build [.int .i64 0, .int .i64 0, .int .u8 0, .str ⟨#[]⟩, .bool false] [(0, 1, .k (.int .i64 3100)), (2, 1, .k (.int .u8 3)), (3, 1, .k (.str ⟨#[82, 101, 118, 101, 110, 117, 101]⟩))]⟩, ⟨some 6, none, .build [.int .i64 0, .int .i64 0, .int .u8 0, .str ⟨#[]⟩, .bool false] [(0, 1, .k (.int .i64 4100)), (2, 1, .k (.int .u8 4)), (3, 1, .k (.str ⟨#[76, 111, 115, 116]⟩))]⟩, ⟨some 7, none, .buildS 6 5 [.int .i64 0, .int .i64 0, .int .u8 0, .str ⟨#[]⟩, .bool false] [(0, .t 1), (1, .t 2), (2, .t 3), (3, .t 4), (4, .t 5), (5, .t 6)] 37⟩, ⟨some 0, none, .mv (.t 7)⟩]) .ret)⟩ := by kernel_rfl

def acsL (l : List Ac) : List (List D) := l.map Ac.cs
theorem acsL_len (l : List Ac) : (acsL l).length = l.length := List.length_map ..
abbrev stdA : List Ac := [⟨1100, 0, 1, ⟨#[67, 97, 115, 104]⟩, false⟩, ⟨1200, 0, 1, ⟨#[82, 101, 99, 101, 105, 118, 97, 98, 108, 101]⟩, false⟩, ⟨2100, 0, 2, ⟨#[68, 101, 102, 101, 114, 114, 101, 100]⟩, false⟩,
  ⟨2200, 0, 2, ⟨#[85, 110, 97, 112, 112, 108, 105, 101, 100]⟩, false⟩, ⟨3100, 0, 3, ⟨#[82, 101, 118, 101, 110, 117, 101]⟩, false⟩, ⟨4100, 0, 4, ⟨#[76, 111, 115, 116]⟩, false⟩]
theorem std1 : Pure 27 [] (.sl (acsL stdA)) := by
  intro S tk
  refine ACalls.fgo c27 rfl fun hS => ?_
  repeat' first | with_reducible refine fzD_ite (fun q => ?_) (fun q => ?_) | ((try conv => whnf); first | refine bs_d (fun q => ?_) (fun q => ?_) | refine bs_n ?_ | refine bs_i (fun q => ?_) (fun q => ?_) | refine eqk rfl ?_ | refine ffin _ rfl rfl hS (Sub.refl _) rfl ⟨?_, rfl, rfl⟩)
  all_goals rfl

theorem take_snA {α : Type} [Inhabited α] {l : List α} {i : Nat} (h : i < l.length) : l.take (i + 1) = l.take i ++ [l[i]!] := by
  rw [List.take_add_one, List.getElem?_eq_getElem h, getElem!_pos l i h]; rfl
theorem take_eq {α : Type} [Inhabited α] {a b : List α} {i : Nat} (ha : i < a.length) (hb : i < b.length) (h : a.take i = b.take i) (e : a[i]! = b[i]!) : a.take (i + 1) = b.take (i + 1) := by
  rw [take_snA ha, take_snA hb, h, e]
theorem ne_of_at {α : Type} [Inhabited α] {a b : List α} {i : Nat} (h : ¬ a[i]! = b[i]!) : ¬ a = b := fun e => h (by rw [e])
theorem iaD_i {l : List Int} {i : Nat} {n : Int} (h : n = i) (hi : i < l.length) : iaD 1 (.sl (i64s l)) (.int .i64 n) = some (.pe [.int .i64 l[i]!] 0) := by
  subst h
  exact iaD_i64s (by omega) (by rw [Int.toNat_natCast, List.getElem?_eq_getElem hi, getElem!_pos l i hi])
theorem iaD_ac {l : List Ac} {i : Nat} {n : Int} (h : n = i) (hi : i < l.length) : iaD 5 (.sl (acsL l)) (.int .i64 n) = some (.pe (l[i]!).cs 0) := by
  subst h
  exact iaD_map (f := Ac.cs) (by omega) (by rw [Int.toNat_natCast, List.getElem?_eq_getElem hi, getElem!_pos l i hi]) rfl
def acEq (x y : Ac) : Bool := decide (x.code = y.code) && (decide (x.up = y.up) && (decide (x.cl = y.cl) && (decide (x.nm = y.nm) && (x.sh == y.sh && true))))
theorem ac_t {x y : Ac} (h : acEq x y = true) : x = y := by
  simp only [acEq, Bool.and_true, Bool.and_eq_true, decide_eq_true_eq, beq_iff_eq] at h
  cases x; cases y
  simp_all
theorem ac_f {x y : Ac} (h : acEq x y = false) : ¬ x = y := fun e => by subst e; simp [acEq] at h
section
variable {cid mid clk : Nat} {S : List O} {tk : Tks} {f : Int → Option Ac} {l : List Ent} {L : List Int}
def allL (f : Int → Option Ac) (L : List Int) : List Ac := L.map fun k => (f k).getD noAc
theorem sc_acsL (n m : Nat) : ∀ (l : List Ac), scLL n m (acsL l) = true
  | [] => rfl
  | x :: r => by
    have := sc_acsL n m r
    unfold acsL at this ⊢
    simp only [List.map_cons, scLL, this, Bool.and_true]; rfl
theorem acsL_app (a b : List Ac) : acsL (a ++ b) = acsL a ++ acsL b := List.map_append
set_option maxHeartbeats 1000000 in
theorem all_at (h : ChR cid mid S f l clk) (hN : l.length < 1000000) (hL : keysOf f L) (hLl : L.length < 1000000) :
    ACalls E0 9 [.po cid 0] S tk (fun r S' tk' => r = .sl (acsL (allL f L)) ∧ S' = S ∧ tk' = tk) := by
  have hlen := i64s_len L
  refine ACalls.fgo c9 rfl fun hS => ?_
  repeat' first | with_reducible refine fzD_ite (fun q => ?_) (fun q => ?_) | ((try conv => whnf); first | refine bs_d (fun q => ?_) (fun q => ?_) | refine bs_n ?_ | refine bs_i (fun q => ?_) (fun q => ?_) | refine ckA rfl rfl (none_at h.app) ?_ | refine pK_i (ldO_old h.c rfl) ?_ | refine ckA rfl rfl (keys_at h.app (by omega) hL) ?_ | refine eqk rfl ?_ | refine ffin _ rfl rfl hS (Sub.refl _) rfl ⟨?_, rfl, rfl⟩)
  refine floop (α := Nat) rfl rfl hS (fun i => i ≤ L.length) (fun i => L.length - i) (fun i => [(14, .d (.int .i64 i)), (13, .d (.int .i64 L.length)), (12, .d (.sl (i64s L))), (0, .d (.po cid 0)), (3, .d (.gsl (acsL (allL f (L.take i))) tk.length))]) (fun _ => []) (fun i => [((acsL (allL f (L.take i))).length, 37, 5)]) 0 (Nat.zero_le _) ?_ ?_
  · exact fstep_tok (t := 3) 37 5 (Or.inl rfl) ⟨Sub.refl _, Sub.int (by rw [hlen]), Sub.refl _, Sub.refl _, Sub.refl _, trivial⟩
  intro i h1
  have step : i < L.length → acsL (allL f (L.take i)) ++ [((f L[i]!).getD noAc).cs] = acsL (allL f (L.take (i + 1))) := fun hi => by
    rw [take_snA hi, allL, allL, List.map_append, acsL_app]; rfl
  have ll : (acsL (allL f (L.take i))).length ≤ 1000000 := by rw [acsL_len, allL, List.length_map]; exact Nat.le_trans (List.length_take_le ..) (by omega)
  repeat' first | with_reducible refine fzD_ite (fun q => ?_) (fun q => ?_) | ((try conv => whnf); first | refine bs_d (fun q => ?_) (fun q => ?_) <;> (try simp (disch := ((try unfold I64); omega)) only [wi64_id, td] at q) | refine bs_n ?_ | refine bs_i (fun q => ?_) (fun q => ?_) | refine pK_i (iaD_i (i := i) (by first | rfl | omega | (refine Int.sub_eq_zero.mp ?_; simp (disch := ((try unfold I64); omega)) only [wi64_id, td]; omega)) (by omega)) ?_ | refine pK_i (ldO_old h.c rfl) ?_ | refine pK_i (mgA h _) ?_ | refine gk_app (t := 0) rfl rfl rfl rfl rfl (by simp [Ac.cs]) ⟨by simp [maxLen]; omega, by simp; omega⟩ ?_ | refine ffin (.sl (acsL (allL f (L.take i)))) rfl rfl hS (Sub.rd rfl) ?_ ⟨?_, rfl, rfl⟩ | refine eqk rfl ?_ | refine ffin _ rfl rfl hS (Sub.refl _) rfl ⟨?_, rfl, rfl⟩)
  · conv => whnf
    refine fnext (α := Nat) (i + 1) (by omega) (by omega) ?_
    refine fstep_K (TK' := [((acsL (allL f (L.take (i + 1)))).length, 37, 5)]) ?_ ⟨Sub.int (by rw [wi64_id]; omega; unfold I64; omega), Sub.refl _, Sub.refl _, Sub.refl _, Sub.of ?_, trivial⟩
    · rw [← step (by omega)]; rfl
    · rw [← step (by omega)]; rfl
  · exact sc_acsL ..
  · rw [List.take_of_length_le (by omega)]
theorem all_nil : Pure 9 [.nilp] (.sl []) := by
  intro S tk
  refine ACalls.fgo c9 rfl fun hS => ?_
  repeat' first | with_reducible refine fzD_ite (fun q => ?_) (fun q => ?_) | ((try conv => whnf); first | refine bs_d (fun q => ?_) (fun q => ?_) | refine bs_n ?_ | refine bs_i (fun q => ?_) (fun q => ?_) | refine ckz (none_nil) ?_ | refine cq (none_nil) ?_ | refine ffin (.sl []) rfl rfl hS Sub.nilE rfl ⟨?_, rfl, rfl⟩ | refine eqk rfl ?_ | refine ffin _ rfl rfl hS (Sub.refl _) rfl ⟨?_, rfl, rfl⟩)
  all_goals rfl
theorem all_zero (h : S[cid]? = some (.arr [.nilmap])) : ACalls E0 9 [.po cid 0] S tk (fun r S' tk' => r = .sl [] ∧ S' = S ∧ tk' = tk) := by
  refine ACalls.fgo c9 rfl fun hS => ?_
  repeat' first | with_reducible refine fzD_ite (fun q => ?_) (fun q => ?_) | ((try conv => whnf); first | refine bs_d (fun q => ?_) (fun q => ?_) | refine bs_n ?_ | refine bs_i (fun q => ?_) (fun q => ?_) | refine ckA rfl rfl (none_zero (at_old h)) ?_ | refine ffin (.sl []) rfl rfl hS Sub.nilE rfl ⟨?_, rfl, rfl⟩ | refine eqk rfl ?_ | refine ffin _ rfl rfl hS (Sub.refl _) rfl ⟨?_, rfl, rfl⟩)
  all_goals rfl
end
def upd (f : Int → Option Ac) (k : Int) (a : Ac) : Int → Option Ac := fun j => if j = k then some a else f j
def Ch (f : Int → Option Ac) (o : O) : Prop := ∃ l clk, o = .map ktI (entKv l) clk ∧ MapR acD l clk f
def addF (f : Int → Option Ac) (n : Nat) (a : Ac) : Int → Option Ac := if addE f n a = 0 then upd f a.code a else f
def shutF (f : Int → Option Ac) (U : List Int) (c : Int) : Int → Option Ac := if shutE f U c = 0 then upd f c { (f c).getD noAc with sh := true } else f
theorem MapR.len {l : List Ent} {clk : Nat} {f : Int → Option Ac} {L : List Int} (h : MapR acD l clk f) (hL : keysOf f L) : l.length = L.length := by
  have : (l.map (·.1)).Perm L := (List.perm_ext_iff_of_nodup h.nd (hL.1.imp fun h => by omega)).2 fun k => by rw [hL.2, h.mem]
  simpa using this.length_eq
section
variable {cid mid : Nat} {S J : List O} {tk : Tks} {f : Int → Option Ac} {o : O} {L : List Int}
theorem Ch.at (h : Ch f o) (hc : S[cid]? = some (.arr [.map mid])) (hm : S[mid]? = some o) : ∃ l clk, o = .map ktI (entKv l) clk ∧ ChR cid mid S f l clk := by
  obtain ⟨l, clk, rfl, hr⟩ := h
  exact ⟨l, clk, rfl, hc, hm, hr⟩
theorem Ch.sc (h : Ch f o) (n m : Nat) : oSc n m o = true := by
  obtain ⟨l, clk, rfl, hr⟩ := h
  exact hr.scA n m
theorem ch_new : Ch (fun _ => none) (.map ktI (entKv []) 0) := ⟨[], 0, rfl, MapR.empty _⟩
theorem add_c (h : Ch f o) (hc : S[cid]? = some (.arr [.map mid])) (hm : S[mid]? = some o) (a : Ac) (n : Nat) (hn : n < 1000000) (hd : (f a.up).isSome = true → climb f n a.up = 0 ∧ ∀ i, i < n → climb f i a.up ≠ 0) :
    ACalls E0 13 [.po cid 0, acD a] S tk (fun r S' tk' => ∃ o', (r = .int .i64 (addE f n a) ∧ Ch (addF f n a) o') ∧ S' = S.set mid o' ∧ tk' = tk) := by
  obtain ⟨l, clk, rfl, hC⟩ := h.at hc hm
  refine (add_at hC a n hn hd).mono ?_
  rintro r S' tk' ⟨rfl, rfl, rfl⟩
  unfold addS addF
  by_cases he : addE f n a = 0
  · rw [if_pos he, if_pos he]; exact ⟨_, ⟨rfl, _, _, rfl, hC.r.set _ _⟩, rfl, rfl⟩
  · rw [if_neg he, if_neg he]; exact ⟨_, ⟨rfl, _, _, rfl, hC.r⟩, (set_self hm).symm, rfl⟩
theorem shut_c (h : Ch f o) (hc : S[cid]? = some (.arr [.map mid])) (hm : S[mid]? = some o) (hL : keysOf f L) (hLl : L.length < 1000000) (c : Int) {U : List Int} (hU : UnderOf f L c U) :
    ACalls E0 14 [.po cid 0, .int .i64 c] S tk (fun r S' tk' => ∃ o', (r = .int .i64 (shutE f U c) ∧ Ch (shutF f U c) o') ∧ S' = S.set mid o' ∧ tk' = tk) := by
  obtain ⟨l, clk, rfl, hC⟩ := h.at hc hm
  refine (shut_at hC (by rw [hC.r.len hL]; exact hLl) hL hLl c hU).mono ?_
  rintro r S' tk' ⟨rfl, rfl, rfl⟩
  unfold shutS shutF
  by_cases he : shutE f U c = 0
  · rw [if_pos he, if_pos he]; exact ⟨_, ⟨rfl, _, _, rfl, hC.r.set _ _⟩, rfl, rfl⟩
  · rw [if_neg he, if_neg he]; exact ⟨_, ⟨rfl, _, _, rfl, hC.r⟩, (set_self hm).symm, rfl⟩
theorem under_c (h : Ch f o) (hc : S[cid]? = some (.arr [.map mid])) (hm : S[mid]? = some o) (hL : keysOf f L) (hLl : L.length < 1000000) (c : Int) {U : List Int} (hU : UnderOf f L c U) :
    ACalls E0 40 [.po cid 0, .int .i64 c] S tk (fun r S' tk' => r = .sl (i64s U) ∧ S' = S ∧ tk' = tk) := by
  obtain ⟨l, clk, rfl, hC⟩ := h.at hc hm
  exact under_at hC (by rw [hC.r.len hL]; exact hLl) hL hLl c hU
theorem leaf_c (h : Ch f o) (hc : S[cid]? = some (.arr [.map mid])) (hm : S[mid]? = some o) (hL : keysOf f L) (hLl : L.length < 1000000) (c : Int) {U : List Int} (hU : UnderOf f L c U) :
    ACalls E0 75 [.po cid 0, .int .i64 c] S tk (fun r S' tk' => r = .bool (decide (U.length = 1)) ∧ S' = S ∧ tk' = tk) := by
  obtain ⟨l, clk, rfl, hC⟩ := h.at hc hm
  exact leaf_at hC (by rw [hC.r.len hL]; exact hLl) hL hLl c hU
theorem all_c (h : Ch f o) (hc : S[cid]? = some (.arr [.map mid])) (hm : S[mid]? = some o) (hL : keysOf f L) (hLl : L.length < 1000000) :
    ACalls E0 9 [.po cid 0] S tk (fun r S' tk' => r = .sl (acsL (allL f L)) ∧ S' = S ∧ tk' = tk) := by
  obtain ⟨l, clk, rfl, hC⟩ := h.at hc hm
  exact all_at hC (by rw [hC.r.len hL]; exact hLl) hL hLl
theorem get_c (h : Ch f o) (hc : S[cid]? = some (.arr [.map mid])) (hm : S[mid]? = some o) (k : Int) : ACalls E0 39 [.po cid 0, .int .i64 k] S tk (fun r S' tk' => r = getF f k ∧ S' = S ∧ tk' = tk) := by
  obtain ⟨l, clk, rfl, hC⟩ := h.at hc hm
  exact get_at hC k
end
instance deepDec (f : Int → Option Ac) (L : List Int) : ∀ n c, Decidable (deep f L n c)
  | 0, _ => .isFalse id
  | n + 1, c => by
    have := deepDec f L n
    unfold deep
    exact List.decidableBAll ..

abbrev hA1 : Ac := ⟨1, 0, 1, ⟨#[97]⟩, false⟩
abbrev hA2 : Ac := ⟨2, 1, 1, ⟨#[98]⟩, false⟩
abbrev hA3 : Ac := ⟨3, 2, 3, ⟨#[99]⟩, false⟩
abbrev hA4 : Ac := ⟨4, 1, 1, ⟨#[100]⟩, false⟩
def h0 : Int → Option Ac := fun _ => none
def h1 := upd h0 1 hA1
def h2 := upd h1 2 hA2
def h3 := upd h2 2 { hA2 with sh := true }
def h4 := upd h3 1 { hA1 with sh := true }
theorem addF_0 {f : Int → Option Ac} {n : Nat} {a : Ac} (h : addE f n a = 0) : addF f n a = upd f a.code a := if_pos h
theorem addF_n {f : Int → Option Ac} {n : Nat} {a : Ac} (h : addE f n a ≠ 0) : addF f n a = f := if_neg h
theorem shutF_0 {f : Int → Option Ac} {U : List Int} {c : Int} (h : shutE f U c = 0) : shutF f U c = upd f c { (f c).getD noAc with sh := true } := if_pos h
theorem shutF_n {f : Int → Option Ac} {U : List Int} {c : Int} (h : shutE f U c ≠ 0) : shutF f U c = f := if_neg h
theorem hv1 : addE h0 0 hA1 = 0 := by decide
theorem hv2 : addE h1 1 hA2 = 0 := by decide
theorem hv3 : addE h2 2 hA3 = 9 := by decide
theorem hv4 : shutE h2 [1, 2] 1 = 9 := by decide
theorem hv5 : shutE h2 [2] 2 = 0 := by decide
theorem hv6 : shutE h3 [1, 2] 1 = 0 := by decide
theorem hv7 : addE h4 1 hA4 = 9 := by decide
theorem hk2 : keysOf h2 [1, 2] := ⟨by decide, fun k => by by_cases e1 : k = 1 <;> by_cases e2 : k = 2 <;> simp [h2, h1, h0, upd, e1, e2]⟩
theorem hk3 : keysOf h3 [1, 2] := ⟨by decide, fun k => by by_cases e1 : k = 1 <;> by_cases e2 : k = 2 <;> simp [h3, h2, h1, h0, upd, e1, e2]⟩
theorem hk4 : keysOf h4 [1, 2] := ⟨by decide, fun k => by by_cases e1 : k = 1 <;> by_cases e2 : k = 2 <;> simp [h4, h3, h2, h1, h0, upd, e1, e2]⟩
theorem under_of {f : Int → Option Ac} {L : List Int} {c : Int} {U : List Int} (n : Nat) (hf : (f c).isSome = true) (hd : deep f L n c) (hp : pre f L n c = U) (hr : U.Pairwise (· < ·)) (hl : U.length < 1000000) : UnderOf f L c U :=
  ⟨fun h => (by rw [h] at hf; cases hf), fun _ => ⟨n, hd, by rw [hp]; exact hl, by rw [hp]; exact hr.imp fun h => by omega, hr, fun k => by rw [hp]⟩⟩
theorem hu1 : UnderOf h2 [1, 2] 1 [1, 2] := under_of 3 (by decide) (by decide) (by decide) (by decide) (by decide)
theorem hu2 : UnderOf h2 [1, 2] 2 [2] := under_of 3 (by decide) (by decide) (by decide) (by decide) (by decide)
theorem hu3 : UnderOf h3 [1, 2] 1 [1, 2] := under_of 3 (by decide) (by decide) (by decide) (by decide) (by decide)
theorem hu4 : UnderOf h4 [1, 2] 1 [1, 2] := under_of 3 (by decide) (by decide) (by decide) (by decide) (by decide)
theorem hu5 : UnderOf h4 [1, 2] 2 [2] := under_of 3 (by decide) (by decide) (by decide) (by decide) (by decide)
theorem isSome_upd {f : Int → Option Ac} {k j : Int} {a : Ac} : (upd f k a j).isSome = true ↔ j = k ∨ (f j).isSome = true := by
  unfold upd; by_cases e : j = k <;> simp [e]
theorem c52 : cFun E0.P 52 = some ⟨20, [(4, none)], .seq (.rg [⟨some 4, none, .mv (.k (.int .i64 0))⟩]) (.seq (.seq (.rg [⟨some 5, none, .mv (.k (.int .i64 0))⟩]) (.block 0 (.loop (.seq (.seq (.rg [⟨some 6, none, .mv (.t 5)⟩, ⟨some 7, none, .mv (.t 0)⟩, ⟨some 8, none, .len 1 (.t 7)⟩, ⟨some 9, none, .bin .lss .leaf (.t 6) (.t 8)⟩]) (.cond (.t 9) .skip (.exit 0))) (.seq (.block 1 (.seq (.rg [⟨some 12, none, .mv (.t 0)⟩, ⟨some 13, none, .mv (.t 5)⟩, ⟨some 14, none, .ia 5 (.t 12) (.t 13)⟩, ⟨some 15, none, .fa 0 (.t 14)⟩, ⟨some 16, none, .ld 1 false (.t 15)⟩, ⟨some 17, none, .mv (.t 1)⟩, ⟨some 18, none, .bin .eql .leaf (.t 16) (.t 17)⟩]) (.cond (.t 18) (.seq (.rg [⟨some 19, none, .mv (.t 5)⟩, ⟨some 4, none, .mv (.t 19)⟩]) .ret) .skip))) (.rg [⟨some 10, none, .mv (.t 5)⟩, ⟨some 11, none, .bin .add .leaf (.t 10) (.k (.int .i64 1))⟩, ⟨some 5, none, .mv (.t 11)⟩])))))) (.seq (.rg [⟨some 4, none, .mv (.k (.int .i64 (-1)))⟩]) .ret))⟩ := by kernel_rfl
theorem c81 : cFun E0.P 81 = some ⟨21, [(6, none)], .seq (.rg [⟨some 6, none, .mv (.k (.bool false))⟩]) (.seq (.block 0 (.loop (.seq (.seq (.rg [⟨some 7, none, .mv (.t 0)⟩, ⟨some 8, none, .mv (.t 1)⟩, ⟨some 9, none, .call 52 [.t 7, .t 8]⟩, ⟨some 10, none, .bin .geq .leaf (.t 9) (.k (.int .i64 0))⟩]) (.cond (.t 10) .skip (.exit 0))) (.block 1 (.seq (.seq (.rg [⟨some 11, none, .mv (.t 1)⟩, ⟨some 12, none, .mv (.t 2)⟩, ⟨some 13, none, .bin .eql .leaf (.t 11) (.t 12)⟩]) (.cond (.t 13) (.seq (.rg [⟨some 6, none, .mv (.k (.bool true))⟩]) .ret) .skip)) (.rg [⟨some 14, none, .mv (.t 0)⟩, ⟨some 15, none, .mv (.t 0)⟩, ⟨some 16, none, .mv (.t 1)⟩, ⟨some 17, none, .call 52 [.t 15, .t 16]⟩, ⟨some 18, none, .ia 5 (.t 14) (.t 17)⟩, ⟨some 19, none, .fa 1 (.t 18)⟩, ⟨some 20, none, .ld 1 false (.t 19)⟩, ⟨some 1, none, .mv (.t 20)⟩])))))) (.seq (.rg [⟨some 6, none, .mv (.k (.bool false))⟩]) .ret))⟩ := by kernel_rfl
theorem c64 : cFun E0.P 64 = some ⟨30, [(4, none)], .seq (.rg [⟨some 4, none, .mv (.k .nilsl)⟩]) (.seq (.rg [⟨some 5, none, .mv (.k .nilsl)⟩]) (.seq (.seq (.rg [⟨some 6, none, .mv (.k (.int .i64 0))⟩]) (.block 0 (.loop (.seq (.seq (.rg [⟨some 7, none, .mv (.t 6)⟩, ⟨some 8, none, .mv (.t 0)⟩, ⟨some 9, none, .len 1 (.t 8)⟩, ⟨some 10, none, .bin .lss .leaf (.t 7) (.t 9)⟩]) (.cond (.t 10) .skip (.exit 0))) (.seq (.block 1 (.seq (.rg [⟨some 13, none, .mv (.t 0)⟩, ⟨some 14, none, .mv (.t 0)⟩, ⟨some 15, none, .mv (.t 6)⟩, ⟨some 16, none, .ia 5 (.t 14) (.t 15)⟩, ⟨some 17, none, .fa 0 (.t 16)⟩, ⟨some 18, none, .ld 1 false (.t 17)⟩, ⟨some 19, none, .mv (.t 1)⟩, ⟨some 20, none, .call 81 [.t 13, .t 18, .t 19]⟩]) (.cond (.t 20) (.rg [⟨some 21, none, .mv (.t 5)⟩, ⟨some 22, none, .mv (.t 0)⟩, ⟨some 23, none, .mv (.t 6)⟩, ⟨some 24, none, .ia 5 (.t 22) (.t 23)⟩, ⟨some 25, none, .fa 0 (.t 24)⟩, ⟨some 26, none, .ld 1 false (.t 25)⟩, ⟨some 27, none, .buildS 1 1 [.int .i64 0] [(0, .t 26)] 3⟩, ⟨some 28, none, .app 73 3 1 8 [.int .i64 0] (.t 21) (.t 27)⟩, ⟨some 5, none, .mv (.t 28)⟩]) .skip))) (.rg [⟨some 11, none, .mv (.t 6)⟩, ⟨some 12, none, .bin .add .leaf (.t 11) (.k (.int .i64 1))⟩, ⟨some 6, none, .mv (.t 12)⟩])))))) (.seq (.rg [⟨some 29, none, .mv (.t 5)⟩, ⟨some 4, none, .mv (.t 29)⟩]) .ret)))⟩ := by kernel_rfl
theorem c53 : cFun E0.P 53 = some ⟨10, [(4, none)], .seq (.rg [⟨some 4, none, .mv (.k (.bool false))⟩]) (.seq (.rg [⟨some 5, none, .mv (.t 0)⟩, ⟨some 6, none, .mv (.t 1)⟩, ⟨some 7, none, .call 64 [.t 5, .t 6]⟩, ⟨some 8, none, .len 1 (.t 7)⟩, ⟨some 9, none, .bin .eql .leaf (.t 8) (.k (.int .i64 1))⟩, ⟨some 4, none, .mv (.t 9)⟩]) .ret)⟩ := by kernel_rfl


def look : List Ac → Int → Option Ac
  | [], _ => none
  | a :: r, k => if a.code = k then some a else look r k
def atI : List Ac → Int → Int
  | [], _ => -1
  | a :: r, k => if a.code = k then 0 else if atI r k < 0 then -1 else atI r k + 1
theorem atI_cases : ∀ (l : List Ac) (k : Int), (look l k = none ∧ atI l k = -1) ∨ ∃ i a, i < l.length ∧ atI l k = (i : Nat) ∧ l[i]? = some a ∧ look l k = some a ∧ a.code = k
  | [], k => .inl ⟨rfl, rfl⟩
  | a :: r, k => by
    by_cases h : a.code = k
    · exact .inr ⟨0, a, by simp, by rw [atI, if_pos h]; rfl, rfl, by rw [look, if_pos h], h⟩
    · rw [look, if_neg h, atI, if_neg h]
      rcases atI_cases r k with ⟨h1, h2⟩ | ⟨i, x, h1, h2, h3, h4, h5⟩
      · exact .inl ⟨h1, by rw [h2]; rfl⟩
      · exact .inr ⟨i + 1, x, by simp; omega, by rw [h2, if_neg (by omega)]; omega, by simpa using h3, h4, h5⟩
def atFrom (l : List Ac) (k : Int) (i : Nat) : Int := if atI (l.drop i) k < 0 then -1 else atI (l.drop i) k + i
theorem atFrom_0 (l : List Ac) (k : Int) : atFrom l k 0 = atI l k := by
  unfold atFrom
  rcases atI_cases l k with ⟨h1, h2⟩ | ⟨i, x, h1, h2, h3, h4, h5⟩
  · simp [h2]
  · simp [h2]
theorem atFrom_yes {l : List Ac} {k : Int} {i : Nat} (hi : i < l.length) (h : (l[i]!).code = k) : atFrom l k i = i := by
  unfold atFrom
  rw [List.drop_eq_getElem_cons hi, ← getElem!_pos l i hi, atI, if_pos h]; simp
theorem atFrom_no {l : List Ac} {k : Int} {i : Nat} (hi : i < l.length) (h : ¬ (l[i]!).code = k) : atFrom l k i = atFrom l k (i + 1) := by
  unfold atFrom
  rw [List.drop_eq_getElem_cons hi, ← getElem!_pos l i hi, atI, if_neg h]
  by_cases h2 : atI (l.drop (i + 1)) k < 0
  · rw [if_pos h2, if_pos h2]; rfl
  · rw [if_neg h2, if_neg h2, if_neg (by omega)]; omega
theorem atFrom_end {l : List Ac} {k : Int} {i : Nat} (hi : l.length ≤ i) : atFrom l k i = -1 := by
  unfold atFrom
  rw [List.drop_of_length_le hi]; rfl
theorem at_p (l : List Ac) (k : Int) (hl : l.length < 1000000) : Pure 52 [.sl (acsL l), .int .i64 k] (.int .i64 (atI l k)) := by
  intro S tk
  have la := acsL_len l
  refine ACalls.fgo c52 rfl fun hS => ?_
  repeat' first | with_reducible refine fzD_ite (fun q => ?_) (fun q => ?_) | ((try conv => whnf); first | refine bs_d (fun q => ?_) (fun q => ?_) | refine bs_n ?_ | refine bs_i (fun q => ?_) (fun q => ?_) | refine eqk rfl ?_ | refine ffin _ rfl rfl hS (Sub.refl _) rfl ⟨?_, rfl, rfl⟩)
  refine floop (α := Nat) rfl rfl hS (fun i => i ≤ l.length ∧ atI l k = atFrom l k i) (fun i => l.length - i) (fun i => [(5, .d (.int .i64 i)), (0, .d (.sl (acsL l))), (1, .d (.int .i64 k))]) (fun _ => []) (fun _ => []) 0 ⟨Nat.zero_le _, (atFrom_0 l k).symm⟩ (fstep_sub ⟨Sub.refl _, Sub.refl _, Sub.refl _, trivial⟩) ?_
  rintro i ⟨h1, h2⟩
  repeat' first | with_reducible refine fzD_ite (fun q => ?_) (fun q => ?_) | ((try conv => whnf); first | refine bs_d (fun q => ?_) (fun q => ?_) <;> (try simp (disch := ((try unfold I64); omega)) only [wi64_id, td] at q) | refine bs_n ?_ | refine bs_i (fun q => ?_) (fun q => ?_) | refine pK_i (iaD_ac (i := i) (by first | rfl | omega | (refine Int.sub_eq_zero.mp ?_; simp (disch := ((try unfold I64); omega)) only [wi64_id, td]; omega)) (by omega)) ?_ | refine eqk rfl ?_ | refine ffin _ rfl rfl hS (Sub.refl _) rfl ⟨?_, rfl, rfl⟩)
  · rw [h2, atFrom_yes (by omega) (by assumption)]; rfl
  · conv => whnf
    refine fnext (α := Nat) (i + 1) ⟨by omega, by rw [h2, atFrom_no (by omega) (by assumption)]⟩ (by omega) (fstep_sub ⟨Sub.int (by rw [wi64_id]; omega; unfold I64; omega), Sub.refl _, Sub.refl _, trivial⟩)
  · rw [h2, atFrom_end (by omega)]; rfl
def ends (f : Int → Option Ac) (n : Nat) (c : Int) : Prop := f (climb f n c) = none ∧ ∀ i, i < n → (f (climb f i c)).isSome = true
def isA (f : Int → Option Ac) (n : Nat) (c u : Int) : Bool := (List.range n).any fun i => decide (climb f i c = u)
theorem isA_t {f : Int → Option Ac} {n : Nat} {c u : Int} {i : Nat} (hi : i < n) (h : climb f i c = u) : isA f n c u = true := List.any_eq_true.2 ⟨i, List.mem_range.2 hi, decide_eq_true h⟩
theorem isA_f {f : Int → Option Ac} {n : Nat} {c u : Int} (h : ∀ i, i < n → climb f i c ≠ u) : isA f n c u = false := by
  rw [isA, List.any_eq_false]
  intro i hi
  simpa using h i (List.mem_range.1 hi)
theorem climb_s (f : Int → Option Ac) (i : Nat) (k : Int) : climb f (i + 1) k = upF f (climb f i k) := by
  induction i generalizing k with
  | zero => rfl
  | succ i ih => rw [climb, ih]; rfl
set_option maxHeartbeats 1000000 in
theorem is_p (l : List Ac) (c u : Int) (n : Nat) (hl : l.length < 1000000) (he : ends (look l) n c) : Pure 81 [.sl (acsL l), .int .i64 c, .int .i64 u] (.bool (isA (look l) n c u)) := by
  intro S tk
  have la := acsL_len l
  refine ACalls.fgo c81 rfl fun hS => ?_
  repeat' first | with_reducible refine fzD_ite (fun q => ?_) (fun q => ?_) | ((try conv => whnf); first | refine bs_d (fun q => ?_) (fun q => ?_) | refine bs_n ?_ | refine bs_i (fun q => ?_) (fun q => ?_) | refine eqk rfl ?_ | refine ffin _ rfl rfl hS (Sub.refl _) rfl ⟨?_, rfl, rfl⟩)
  refine floop (α := Nat) rfl rfl hS (fun i => i ≤ n ∧ ∀ j, j < i → climb (look l) j c ≠ u) (fun i => n - i) (fun i => [(1, .d (.int .i64 (climb (look l) i c))), (0, .d (.sl (acsL l))), (2, .d (.int .i64 u))]) (fun _ => []) (fun _ => []) 0 ⟨Nat.zero_le _, fun j hj => absurd hj (by omega)⟩ (fstep_sub ⟨Sub.refl _, Sub.refl _, Sub.refl _, trivial⟩) ?_
  rintro i ⟨h1, h2⟩
  rcases atI_cases l (climb (look l) i c) with ⟨h3, h4⟩ | ⟨k, a, h3, h4, h5, h6, h7⟩
  · have e : i = n := Classical.byContradiction fun hne => by have := he.2 i (by omega); rw [h3] at this; cases this
    have ap := at_p l (climb (look l) i c) hl
    rw [h4] at ap
    repeat' first | with_reducible refine fzD_ite (fun q => ?_) (fun q => ?_) | ((try conv => whnf); first | refine bs_d (fun q => ?_) (fun q => ?_) | refine bs_n ?_ | refine bs_i (fun q => ?_) (fun q => ?_) | refine ckz (ap) ?_ | refine cq (ap) ?_ | refine eqk rfl ?_ | refine ffin _ rfl rfl hS (Sub.refl _) rfl ⟨?_, rfl, rfl⟩)
    · rw [isA_f (by subst e; exact h2)]; rfl
  · have hlt : i < n := Classical.byContradiction fun hge => by
      have e : i = n := by omega
      subst e; rw [he.1] at h6; cases h6
    have e5 : l[k]! = a := by rw [getElem!_pos l k h3]; rw [List.getElem?_eq_getElem h3] at h5; exact Option.some.inj h5
    have ap := at_p l (climb (look l) i c) hl
    rw [h4] at ap
    repeat' first | with_reducible refine fzD_ite (fun q => ?_) (fun q => ?_) | ((try conv => whnf); first | refine bs_d (fun q => ?_) (fun q => ?_) | refine bs_n ?_ | refine bs_i (fun q => ?_) (fun q => ?_) | refine ckz (ap) ?_ | refine cq (ap) ?_ | refine pK_i (iaD_ac (i := k) rfl h3) ?_ | refine eqk rfl ?_ | refine ffin _ rfl rfl hS (Sub.refl _) rfl ⟨?_, rfl, rfl⟩)
    · rw [isA_t hlt (by assumption)]; rfl
    · conv => whnf
      refine fnext (α := Nat) (i + 1) ⟨by omega, fun j hj => ?_⟩ (by omega) (fstep_sub ⟨Sub.int ?_, Sub.refl _, Sub.refl _, trivial⟩)
      · by_cases hji : j = i
        · subst hji; assumption
        · exact h2 j (by omega)
      · rw [climb_s, upF, h6, e5]; rfl
def cntA (l : List Ac) (n : Nat) (c : Int) (r : List Ac) : Nat := (r.filter fun x => isA (look l) n c x.code).length
theorem cntA_snoc (l : List Ac) (n : Nat) (c : Int) {r : List Ac} {i : Nat} (hi : i < r.length) : cntA l n c (r.take (i + 1)) = cntA l n c (r.take i) + (if isA (look l) n c (r[i]!).code = true then 1 else 0) := by
  unfold cntA
  rw [take_snA hi, List.filter_append, List.length_append]
  by_cases h : isA (look l) n c (r[i]!).code = true
  · rw [List.filter_cons, if_pos h, if_pos h]; rfl
  · rw [List.filter_cons, if_neg h, if_neg h]; rfl

def depF (f : Int → Option Ac) : Nat → Int → Nat
  | 0, _ => 0
  | n + 1, k => if (f k).isSome = true then depF f n (upF f k) + 1 else 0
theorem ends_depF {f : Int → Option Ac} : ∀ {N : Nat} {k : Int}, f (climb f N k) = none → ends f (depF f N k) k
  | 0, k, h => ⟨h, fun i hi => absurd hi (Nat.not_lt_zero i)⟩
  | N + 1, k, h => by
    rw [depF]
    by_cases hk : (f k).isSome = true
    · rw [if_pos hk]
      have ih := ends_depF (N := N) (k := upF f k) h
      refine ⟨ih.1, fun i hi => ?_⟩
      match i with
      | 0 => exact hk
      | i + 1 => exact ih.2 i (by omega)
    · rw [if_neg hk]
      exact ⟨by simpa [climb] using hk, fun i hi => absurd hi (Nat.not_lt_zero i)⟩
theorem depF_le (f : Int → Option Ac) : ∀ (N : Nat) (k : Int), depF f N k ≤ N
  | 0, k => Nat.le_refl _
  | N + 1, k => by
    rw [depF]; split
    · have := depF_le f N (upF f k); omega
    · omega
def Low (f : Int → Option Ac) : Prop := ∀ k, f (climb f 8 k) = none
def dep (f : Int → Option Ac) (k : Int) : Nat := depF f 8 k
def isB (f : Int → Option Ac) (c u : Int) : Bool := isA f (dep f c) c u
theorem Low.ends {f : Int → Option Ac} (h : Low f) (k : Int) : ends f (dep f k) k := ends_depF (h k)
theorem is_b (l : List Ac) (hl : l.length < 1000000) (h : Low (look l)) (c u : Int) : Pure 81 [.sl (acsL l), .int .i64 c, .int .i64 u] (.bool (isB (look l) c u)) := is_p l c u _ hl (h.ends c)
def undL (l : List Ac) (c : Int) (r : List Ac) : List Int := (r.filter fun x => isB (look l) x.code c).map Ac.code
theorem undL_snoc (l : List Ac) (c : Int) {r : List Ac} {i : Nat} (hi : i < r.length) : undL l c (r.take (i + 1)) = undL l c (r.take i) ++ (if isB (look l) (r[i]!).code c = true then [(r[i]!).code] else []) := by
  unfold undL
  rw [take_snA hi, List.filter_append, List.map_append]
  by_cases h : isB (look l) (r[i]!).code c = true
  · rw [List.filter_cons, if_pos h, if_pos h]; rfl
  · rw [List.filter_cons, if_neg h, if_neg h]; rfl
set_option maxHeartbeats 1000000 in
theorem under_p (l : List Ac) (hl : l.length < 1000000) (h : Low (look l)) (c : Int) : Pure 64 [.sl (acsL l), .int .i64 c] (.sl (i64s (undL l c l))) := by
  intro S tk
  have la := acsL_len l
  refine ACalls.fgo c64 rfl fun hS => ?_
  repeat' first | with_reducible refine fzD_ite (fun q => ?_) (fun q => ?_) | ((try conv => whnf); first | refine bs_d (fun q => ?_) (fun q => ?_) | refine bs_n ?_ | refine bs_i (fun q => ?_) (fun q => ?_) | refine eqk rfl ?_ | refine ffin _ rfl rfl hS (Sub.refl _) rfl ⟨?_, rfl, rfl⟩)
  refine floop (α := Nat) rfl rfl hS (fun i => i ≤ l.length) (fun i => l.length - i) (fun i => [(6, .d (.int .i64 i)), (5, .d (.gsl (i64s (undL l c (l.take i))) tk.length)), (0, .d (.sl (acsL l))), (1, .d (.int .i64 c))]) (fun _ => []) (fun i => [((i64s (undL l c (l.take i))).length, 3, 1)]) 0 (Nat.zero_le _) (fstep_tok (t := 5) 3 1 (Or.inl rfl) ⟨Sub.refl _, Sub.refl _, Sub.refl _, Sub.refl _, trivial⟩) ?_
  intro i h1
  have cl : (i64s (undL l c (l.take i))).length ≤ i := by
    rw [i64s_len, undL, List.length_map]
    exact Nat.le_trans (List.length_filter_le ..) (List.length_take_le ..)
  have st := fun hi => undL_snoc l c (r := l) (i := i) hi
  repeat' first | with_reducible refine fzD_ite (fun q => ?_) (fun q => ?_) | ((try conv => whnf); first | refine bs_d (fun q => ?_) (fun q => ?_) <;> (try simp (disch := ((try unfold I64); omega)) only [wi64_id, td] at q) | refine bs_n ?_ | refine bs_i (fun q => ?_) (fun q => ?_) | refine ckz (is_b l hl h _ _) ?_ | refine cq (is_b l hl h _ _) ?_ | refine pK_i (iaD_ac (i := i) (by first | rfl | omega | (refine Int.sub_eq_zero.mp ?_; simp (disch := ((try unfold I64); omega)) only [wi64_id, td]; omega)) (by omega)) ?_ | refine gk_app (t := 0) rfl rfl rfl rfl rfl (by simp) ⟨by simp [maxLen]; omega, by simp; omega⟩ ?_ | refine ffin (.sl (i64s (undL l c (l.take i)))) rfl rfl hS (Sub.rd rfl) ?_ ⟨?_, rfl, rfl⟩ | refine eqk rfl ?_ | refine ffin _ rfl rfl hS (Sub.refl _) rfl ⟨?_, rfl, rfl⟩)
  · rename_i q
    rw [if_pos q] at st
    have e : i64s (undL l c (l.take (i + 1))) = i64s (undL l c (l.take i)) ++ [[.int .i64 (l[i]!).code]] := by rw [st (by omega), i64s, List.map_append]; rfl
    conv => whnf
    refine fnext (α := Nat) (i + 1) (by omega) (by omega) (fstep_K (TK' := [((i64s (undL l c (l.take (i + 1)))).length, 3, 1)]) ?_ ⟨Sub.int (by rw [wi64_id]; omega; unfold I64; omega), Sub.of ?_, Sub.refl _, Sub.refl _, trivial⟩)
    · rw [e]; rfl
    · rw [e]; rfl
  · rename_i q
    rw [if_neg (by rw [q]; simp), List.append_nil] at st
    conv => whnf
    refine fnext (α := Nat) (i + 1) (by omega) (by omega) (fstep_K (TK' := [((i64s (undL l c (l.take (i + 1)))).length, 3, 1)]) (by rw [st (by omega)]) ⟨Sub.int (by rw [wi64_id]; omega; unfold I64; omega), Sub.of (by rw [st (by omega)]; rfl), Sub.refl _, Sub.refl _, trivial⟩)
  · exact sc_i64s ..
  · rw [List.take_of_length_le (by omega)]
theorem leaf_p (l : List Ac) (hl : l.length < 1000000) (h : Low (look l)) (c : Int) : Pure 53 [.sl (acsL l), .int .i64 c] (.bool (decide ((undL l c l).length = 1))) := by
  intro S tk
  have hlen := i64s_len (undL l c l)
  refine ACalls.fgo c53 rfl fun hS => ?_
  repeat' first | with_reducible refine fzD_ite (fun q => ?_) (fun q => ?_) | ((try conv => whnf); first | refine bs_d (fun q => ?_) (fun q => ?_) | refine bs_n ?_ | refine bs_i (fun q => ?_) (fun q => ?_) | refine ckz (under_p l hl h c) ?_ | refine cq (under_p l hl h c) ?_ | refine eqk rfl ?_ | refine ffin _ rfl rfl hS (Sub.refl _) rfl ⟨?_, rfl, rfl⟩)
  all_goals simp only [tupD, D.bool.injEq]
  all_goals symm
  all_goals first
    | exact decide_eq_true (by omega)
    | exact decide_eq_false (by omega)
def insA : List Ac → Ac → List Ac
  | [], a => [a]
  | x :: r, a => if x.code < a.code then x :: insA r a else a :: x :: r
def addR (q : List Ac) (n : Nat) (a : Ac) : List Ac := if addE (look q) n a = 0 then insA q a else q
def shR (q : List Ac) (c : Int) : List Ac := q.map fun y => if y.code = c then { y with sh := true } else y
def badR (q : List Ac) (c : Int) (y : Ac) : Bool := decide (y.code ≠ c) && (isB (look q) y.code c && !y.sh)
def shutRE (q : List Ac) (c : Int) : Int := match look q c with
  | none => 7
  | some x => if x.sh = true then 9 else if q.any (badR q c) = true then 9 else 0
section
variable {f : Int → Option Ac}
theorem climb_add (f : Int → Option Ac) : ∀ (i t : Nat) (k : Int), climb f (i + t) k = climb f t (climb f i k)
  | 0, t, k => by rw [Nat.zero_add]; rfl
  | i + 1, t, k => by rw [Nat.add_right_comm, climb, climb_add f i t, climb]
theorem ends_ne {n : Nat} {c : Int} (h : ends f n c) {i j : Nat} (hij : i < j) (hj : j < n) : climb f i c ≠ climb f j c := fun e => by
  have e2 : climb f (i + (n - j)) c = climb f n c := by rw [climb_add, e, ← climb_add]; congr 1; omega
  have := h.2 (i + (n - j)) (by omega)
  rw [e2, h.1] at this; cases this
theorem ends_eq {n m : Nat} {c : Int} (h : ends f n c) (h' : ends f m c) : n = m := by
  rcases Nat.lt_trichotomy n m with hlt | e | hlt
  · have := h'.2 n hlt; rw [h.1] at this; cases this
  · exact e
  · have := h.2 m hlt; rw [h'.1] at this; cases this
theorem past (h0 : f 0 = none) : ∀ (t : Nat) (k : Int), f k = none → f (climb f t k) = none
  | 0, k, h => h
  | t + 1, k, h => by
    rw [climb, upF, h]
    exact past h0 t 0 h0
theorem dep_pos (hl : Low f) {k : Int} (h : (f k).isSome = true) : 0 < dep f k := by
  have := (hl.ends k).1
  rcases Nat.eq_zero_or_pos (dep f k) with e | e
  · rw [e] at this; rw [show climb f 0 k = k from rfl] at this; rw [this] at h; cases h
  · exact e
theorem dep_none {k : Int} (h : f k = none) : dep f k = 0 := by rw [dep, depF, h]; rfl
theorem dep_up (hl : Low f) {k : Int} (h : (f k).isSome = true) : dep f k = dep f (upF f k) + 1 := by
  refine ends_eq (hl.ends k) ?_
  have h2 := hl.ends (upF f k)
  refine ⟨h2.1, fun i hi => ?_⟩
  match i with
  | 0 => exact h
  | i + 1 => exact h2.2 i (by omega)
theorem dep_climb (hl : Low f) : ∀ (i : Nat) (k : Int), i ≤ dep f k → dep f k = dep f (climb f i k) + i
  | 0, k, _ => rfl
  | i + 1, k, h => by
    have hk : (f k).isSome = true := (hl.ends k).2 0 (by omega)
    have e := dep_up hl hk
    have := dep_climb hl i (upF f k) (by omega)
    rw [climb]; omega
theorem isB_iff {k c : Int} : isB f k c = true ↔ ∃ i, i < dep f k ∧ climb f i k = c := by
  rw [isB, isA, List.any_eq_true]
  constructor
  · rintro ⟨i, h1, h2⟩; exact ⟨i, List.mem_range.1 h1, of_decide_eq_true h2⟩
  · rintro ⟨i, h1, h2⟩; exact ⟨i, List.mem_range.2 h1, decide_eq_true h2⟩
theorem isB_self (hl : Low f) {c : Int} (h : (f c).isSome = true) : isB f c c = true := isB_iff.2 ⟨0, dep_pos hl h, rfl⟩
theorem isB_some (hl : Low f) {k c : Int} (h : isB f k c = true) : (f k).isSome = true ∧ (f c).isSome = true := by
  obtain ⟨i, h1, h2⟩ := isB_iff.1 h
  exact ⟨(hl.ends k).2 0 (by omega), by rw [← h2]; exact (hl.ends k).2 i h1⟩
theorem isB_up (hl : Low f) {k c : Int} (h : isB f k c = true) (hne : k ≠ c) : isB f (upF f k) c = true := by
  obtain ⟨i, h1, h2⟩ := isB_iff.1 h
  have e := dep_up hl (isB_some hl h).1
  match i with
  | 0 => exact absurd h2 hne
  | i + 1 => exact isB_iff.2 ⟨i, by omega, h2⟩

variable {L : List Int}
theorem deep_ok (hl : Low f) (hL : keysOf f L) : ∀ (n : Nat) (c : Int), 9 ≤ dep f c + n → deep f L n c
  | 0, c, h => by have := depF_le f 8 c; unfold dep at h; omega
  | n + 1, c, h => fun k hk hu => by
    have e := dep_up hl ((hL.2 k).1 hk)
    rw [hu] at e
    exact deep_ok hl hL n k (by omega)
theorem mem_pre (hl : Low f) (hL : keysOf f L) : ∀ (n : Nat) (c : Int), (f c).isSome = true → 9 ≤ dep f c + n → ∀ k, k ∈ pre f L n c ↔ isB f k c = true
  | 0, c, hc, h, k => by have := depF_le f 8 c; unfold dep at h; omega
  | n + 1, c, hc, h, k => by
    rw [pre, List.mem_cons, List.mem_flatMap]
    constructor
    · rintro (rfl | ⟨ch, h1, h2⟩)
      · exact isB_self hl hc
      · split at h2
        · rename_i hu
          have hch := (hL.2 ch).1 h1
          have e := dep_up hl hch
          rw [hu] at e
          obtain ⟨i, k1, k2⟩ := isB_iff.1 ((mem_pre hl hL n ch hch (by omega) k).1 h2)
          have e2 : climb f (i + 1) k = c := by rw [climb_s, k2, hu]
          refine isB_iff.2 ⟨i + 1, Classical.byContradiction fun hge => ?_, e2⟩
          have e3 : i + 1 = dep f k := by omega
          have := (hl.ends k).1
          rw [← e3, e2] at this
          rw [this] at hc; cases hc
        · cases h2
    · intro hb
      obtain ⟨i, k1, k2⟩ := isB_iff.1 hb
      match i with
      | 0 => exact .inl k2
      | i + 1 =>
        have hch : (f (climb f i k)).isSome = true := (hl.ends k).2 i (by omega)
        have hu : upF f (climb f i k) = c := by rw [← climb_s]; exact k2
        have e := dep_up hl hch
        rw [hu] at e
        refine .inr ⟨climb f i k, (hL.2 _).2 hch, ?_⟩
        rw [if_pos hu]
        exact (mem_pre hl hL n _ hch (by omega) k).2 (isB_iff.2 ⟨i, by omega, rfl⟩)
theorem nodup_pre (hl : Low f) (hL : keysOf f L) : ∀ (n : Nat) (c : Int), (f c).isSome = true → 9 ≤ dep f c + n → (pre f L n c).Nodup
  | 0, c, hc, h => by have := depF_le f 8 c; unfold dep at h; omega
  | n + 1, c, hc, h => by
    have sub : ∀ ch, ch ∈ L → ∀ x, x ∈ (if upF f ch = c then pre f L n ch else []) → isB f x ch = true ∧ dep f ch = dep f c + 1 := fun ch h1 x hx => by
      split at hx
      · rename_i hu
        have hch := (hL.2 ch).1 h1
        have e := dep_up hl hch
        rw [hu] at e
        exact ⟨(mem_pre hl hL n ch hch (by omega) x).1 hx, e⟩
      · cases hx
    have at_dep : ∀ {x ch : Int}, isB f x ch = true → ∃ i, climb f i x = ch ∧ dep f x = dep f ch + i := fun {x ch} hb => by
      obtain ⟨i, k1, k2⟩ := isB_iff.1 hb
      exact ⟨i, k2, by rw [← k2]; exact dep_climb hl i x (by omega)⟩
    rw [pre, List.nodup_cons, List.mem_flatMap]
    refine ⟨?_, ?_⟩
    · rintro ⟨ch, h1, h2⟩
      obtain ⟨hb, e⟩ := sub ch h1 c h2
      obtain ⟨i, _, e2⟩ := at_dep hb
      omega
    · rw [List.nodup_iff_pairwise_ne, List.pairwise_flatMap]
      refine ⟨fun ch h1 => ?_, hL.1.imp_of_mem ?_⟩
      · split
        · rename_i hu
          have hch := (hL.2 ch).1 h1
          have e := dep_up hl hch
          rw [hu] at e
          exact nodup_pre hl hL n ch hch (by omega)
        · exact List.Pairwise.nil
      · rintro c1 c2 m1 m2 hlt x hx y hy rfl
        obtain ⟨b1, e1⟩ := sub c1 m1 x hx
        obtain ⟨b2, e2⟩ := sub c2 m2 x hy
        obtain ⟨i1, k1, g1⟩ := at_dep b1
        obtain ⟨i2, k2, g2⟩ := at_dep b2
        have : i1 = i2 := by omega
        subst this
        omega
end

structure OkQ (q : List Ac) : Prop where
  rise : (q.map Ac.code).Pairwise (· < ·)
  pos : ∀ x ∈ q, 1 ≤ x.code
  cl : ∀ x ∈ q, x.up = 0 ∨ (look q x.up).isSome = true
  low : Low (look q)
theorem look_mem {q : List Ac} {k : Int} {a : Ac} (h : look q k = some a) : a ∈ q ∧ a.code = k := by
  induction q with
  | nil => cases h
  | cons x r ih =>
    rw [look] at h
    split at h
    · rename_i e; cases h; exact ⟨by simp, e⟩
    · obtain ⟨h1, h2⟩ := ih h; exact ⟨by simp [h1], h2⟩
theorem look_some {q : List Ac} {k : Int} : (look q k).isSome = true ↔ k ∈ q.map Ac.code := by
  induction q with
  | nil => simp [look]
  | cons x r ih =>
    rw [look, List.map_cons, List.mem_cons]
    split
    · rename_i e; simp [e]
    · rename_i e; rw [ih]
      constructor
      · exact .inr
      · rintro (h | h)
        · exact absurd h.symm e
        · exact h
theorem look_of {q : List Ac} (h : (q.map Ac.code).Pairwise (· < ·)) {a : Ac} (ha : a ∈ q) : look q a.code = some a := by
  induction q with
  | nil => cases ha
  | cons x r ih =>
    rw [List.map_cons, List.pairwise_cons] at h
    rw [look]
    rcases List.mem_cons.1 ha with rfl | ha
    · rw [if_pos rfl]
    · have := h.1 a.code (List.mem_map_of_mem ha)
      rw [if_neg (by omega)]
      exact ih h.2 ha
section
variable {q : List Ac}
theorem OkQ.keys (h : OkQ q) : keysOf (look q) (q.map Ac.code) := ⟨h.rise, fun k => look_some.symm⟩
theorem OkQ.zero (h : OkQ q) : look q 0 = none := by
  cases e : look q 0 with
  | none => rfl
  | some a =>
    obtain ⟨h1, h2⟩ := look_mem e
    have := h.pos a h1
    omega
theorem OkQ.all (h : OkQ q) : allL (look q) (q.map Ac.code) = q := by
  rw [allL, List.map_map]
  have : ∀ a ∈ q, ((fun k => (look q k).getD noAc) ∘ Ac.code) a = a := fun a ha => by simp [look_of h.rise ha]
  rw [List.map_congr_left this, List.map_id'']
  exact fun _ => rfl
theorem OkQ.clF (h : OkQ q) {k : Int} {x : Ac} (hx : look q k = some x) : x.up = 0 ∨ (look q x.up).isSome = true := h.cl x (look_mem hx).1
theorem OkQ.nd (h : OkQ q) : (q.map Ac.code).Nodup := h.rise.imp fun h => by omega
theorem OkQ.und (h : OkQ q) (hl : q.length < 1000000) (c : Int) : UnderOf (look q) (q.map Ac.code) c (undL q c q) := by
  have mem : ∀ k, k ∈ undL q c q ↔ isB (look q) k c = true := fun k => by
    rw [undL, List.mem_map]
    constructor
    · rintro ⟨x, hx, rfl⟩; exact (List.mem_filter.1 hx).2
    · intro hb
      obtain ⟨x, hx⟩ := Option.isSome_iff_exists.1 (isB_some h.low hb).1
      obtain ⟨h1, rfl⟩ := look_mem hx
      exact ⟨x, List.mem_filter.2 ⟨h1, hb⟩, rfl⟩
  have rise : (undL q c q).Pairwise (· < ·) := h.rise.sublist ((List.filter_sublist).map _)
  refine ⟨fun hn => ?_, fun hn => ?_⟩
  · refine List.eq_nil_iff_forall_not_mem.2 fun k hk => ?_
    have := (isB_some h.low ((mem k).1 hk)).2
    rw [hn] at this; cases this
  · have hc : (look q c).isSome = true := by
      cases e : look q c with
      | none => exact absurd e hn
      | some a => rfl
    have m2 := mem_pre h.low h.keys 9 c hc (by omega)
    have nd := nodup_pre h.low h.keys 9 c hc (by omega)
    have hp : (pre (look q) (q.map Ac.code) 9 c).Perm (undL q c q) := (List.perm_ext_iff_of_nodup nd (rise.imp fun h => by omega)).2 fun k => by rw [m2, mem]
    refine ⟨9, deep_ok h.low h.keys 9 c (by omega), ?_, nd, rise, fun k => by rw [m2, mem]⟩
    rw [hp.length_eq, undL, List.length_map]
    exact Nat.lt_of_le_of_lt (List.length_filter_le ..) hl
theorem OkQ.cnt (h : OkQ q) {n : Nat} {c : Int} (he : ends (look q) n c) : cntA q n c q = n := by
  have hp : ((q.filter fun x => isA (look q) n c x.code).map Ac.code).Perm ((List.range n).map fun i => climb (look q) i c) := by
    refine (List.perm_ext_iff_of_nodup (h.nd.sublist ((List.filter_sublist).map _)) ?_).2 fun k => ?_
    · rw [List.nodup_iff_pairwise_ne, List.pairwise_map]
      refine List.pairwise_lt_range.imp_of_mem fun {i j} hi hj hij => ends_ne he hij (List.mem_range.1 hj)
    · rw [List.mem_map, List.mem_map]
      constructor
      · rintro ⟨x, hx, rfl⟩
        obtain ⟨i, h1, h2⟩ := List.any_eq_true.1 (List.mem_filter.1 hx).2
        exact ⟨i, h1, of_decide_eq_true h2⟩
      · rintro ⟨i, h1, rfl⟩
        obtain ⟨x, hx⟩ := Option.isSome_iff_exists.1 (he.2 i (List.mem_range.1 h1))
        obtain ⟨h3, h4⟩ := look_mem hx
        exact ⟨x, List.mem_filter.2 ⟨h3, isA_t (List.mem_range.1 h1) h4.symm⟩, h4⟩
  have := hp.length_eq
  rw [List.length_map, List.length_map, List.length_range] at this
  exact this
end
theorem addE_inv {f : Int → Option Ac} {n : Nat} {a : Ac} (h : addE f n a = 0) : mayA a ∧ f a.code = none ∧ (a.up = 0 ∨ (f a.up).isSome = true) ∧ ((f a.up).isSome = true → ((f a.up).getD noAc).sh = false ∧ ((f a.up).getD noAc).cl = a.cl ∧ n < 8) := by
  unfold addE at h
  split at h
  · rename_i hm
    split at h
    · omega
    · rename_i h1
      split at h
      · omega
      · rename_i h2
        split at h
        · omega
        · rename_i h3
          refine ⟨hm, by simpa using h1, ?_, fun hs => ?_⟩
          · by_cases e : a.up = 0
            · exact .inl e
            · refine .inr ?_
              cases hs : (f a.up).isSome with
              | true => rfl
              | false => exact absurd ⟨e, hs⟩ h2
          · refine ⟨?_, ?_, ?_⟩
            · cases hsh : ((f a.up).getD noAc).sh with
              | false => rfl
              | true => exact absurd ⟨hs, .inl hsh⟩ h3
            · exact Classical.byContradiction fun hc => h3 ⟨hs, .inr (.inl hc)⟩
            · exact Classical.byContradiction fun hc => h3 ⟨hs, .inr (.inr (by omega))⟩
  · omega
theorem look_ins {a : Ac} : ∀ {q : List Ac}, look q a.code = none → look (insA q a) = upd (look q) a.code a
  | [], _ => by
    funext k
    simp only [insA, look, upd]
    by_cases e : a.code = k
    · subst e; simp
    · rw [if_neg e, if_neg (fun h => e h.symm)]
  | x :: r, h => by
    funext k
    rw [look] at h
    split at h
    · cases h
    · rename_i hx
      rw [insA]
      split
      · rw [look, look_ins h]
        simp only [upd, look]
        by_cases e : x.code = k
        · subst e; rw [if_pos rfl, if_neg hx, if_pos rfl]
        · rw [if_neg e, if_neg e]
      · rw [look]
        simp only [upd]
        by_cases e : a.code = k
        · subst e; simp
        · rw [if_neg e, if_neg (fun h => e h.symm)]
theorem mem_ins {a y : Ac} : ∀ {q : List Ac}, y ∈ insA q a ↔ y = a ∨ y ∈ q
  | [] => by simp [insA]
  | x :: r => by
    rw [insA]
    split
    · rw [List.mem_cons, mem_ins, List.mem_cons]
      constructor
      · rintro (h | h | h)
        · exact .inr (.inl h)
        · exact .inl h
        · exact .inr (.inr h)
      · rintro (h | h | h)
        · exact .inr (.inl h)
        · exact .inl h
        · exact .inr (.inr h)
    · simp
theorem len_ins {a : Ac} : ∀ {q : List Ac}, (insA q a).length = q.length + 1
  | [] => rfl
  | x :: r => by
    rw [insA]
    split
    · simp [len_ins]
    · simp
theorem rise_ins {a : Ac} : ∀ {q : List Ac}, (q.map Ac.code).Pairwise (· < ·) → look q a.code = none → ((insA q a).map Ac.code).Pairwise (· < ·)
  | [], _, _ => by simp [insA]
  | x :: r, h, hn => by
    rw [List.map_cons, List.pairwise_cons] at h
    rw [look] at hn
    split at hn
    · cases hn
    · rename_i hx
      rw [insA]
      split
      · rw [List.map_cons, List.pairwise_cons]
        refine ⟨fun k hk => ?_, rise_ins h.2 hn⟩
        obtain ⟨y, hy, rfl⟩ := List.mem_map.1 hk
        rcases mem_ins.1 hy with rfl | hy
        · assumption
        · exact h.1 _ (List.mem_map_of_mem hy)
      · rw [List.map_cons, List.pairwise_cons]
        refine ⟨fun k hk => ?_, by rw [List.map_cons, List.pairwise_cons]; exact h⟩
        rw [List.map_cons, List.mem_cons] at hk
        rcases hk with rfl | hk
        · omega
        · have := h.1 k hk; omega
section
variable {f : Int → Option Ac}
theorem climb_upd {a : Ac} (ha : f a.code = none) (hcl : ∀ k x, f k = some x → x.up = 0 ∨ (f x.up).isSome = true) (h0 : f 0 = none) (hc : a.code ≠ 0) :
    ∀ (i : Nat) (k : Int), ((f k).isSome = true ∨ k = 0) → climb (upd f a.code a) i k = climb f i k ∧ ((f (climb f i k)).isSome = true ∨ climb f i k = 0)
  | 0, k, h => ⟨rfl, h⟩
  | i + 1, k, h => by
    have hk : k ≠ a.code := by
      rintro rfl
      rcases h with h | h
      · rw [ha] at h; cases h
      · exact hc h
    have e : upF (upd f a.code a) k = upF f k := by rw [upF, upd, if_neg hk]; rfl
    have h2 : (f (upF f k)).isSome = true ∨ upF f k = 0 := by
      rw [upF]
      cases hx : f k with
      | none => exact .inr rfl
      | some x => exact (hcl k x hx).symm
    rw [climb, e]
    exact climb_upd ha hcl h0 hc i _ h2
theorem low_upd {a : Ac} {n : Nat} (hl : Low f) (ha : f a.code = none) (hcl : ∀ k x, f k = some x → x.up = 0 ∨ (f x.up).isSome = true) (h0 : f 0 = none) (hc : a.code ≠ 0)
    (hu : a.up = 0 ∨ (f a.up).isSome = true) (he : ends f n a.up) (hn : (f a.up).isSome = true → n < 8) : Low (upd f a.code a) := by
  have up0 : ∀ {k}, ((f k).isSome = true ∨ k = 0) → upd f a.code a k = f k := fun {k} h => by
    rw [upd, if_neg]
    rintro rfl
    rcases h with h | h
    · rw [ha] at h; cases h
    · exact hc h
  intro k
  by_cases hk : k = a.code
  · subst hk
    have e : upF (upd f a.code a) a.code = a.up := by rw [upF, upd, if_pos rfl]; rfl
    obtain ⟨e1, e2⟩ := climb_upd ha hcl h0 hc 7 a.up hu.symm
    rw [climb, e, e1, up0 e2]
    have hn' : n ≤ 7 := by
      rcases hu with hz | hs
      · rcases Nat.eq_zero_or_pos n with h | h
        · omega
        · have := he.2 0 h
          rw [show climb f 0 a.up = a.up from rfl, hz, h0] at this; cases this
      · have := hn hs; omega
    have := past h0 (7 - n) _ he.1
    rw [← climb_add] at this
    rwa [show n + (7 - n) = 7 by omega] at this
  · by_cases hs : (f k).isSome = true ∨ k = 0
    · obtain ⟨e1, e2⟩ := climb_upd ha hcl h0 hc 8 k hs
      rw [e1, up0 e2]; exact hl k
    · have hkn : f k = none := by
        cases hx : f k with
        | none => rfl
        | some x => exact absurd (.inl (by rw [hx]; rfl)) hs
      refine past (by rw [up0 (.inr rfl)]; exact h0) 8 k ?_
      rw [upd, if_neg hk]; exact hkn
end
section
variable {q : List Ac} {a : Ac} {c : Int} {n : Nat}
theorem ok_nil : OkQ [] := ⟨by simp, by simp, by simp, fun k => rfl⟩
theorem OkQ.add (h : OkQ q) (he : ends (look q) n a.up) (h0 : addE (look q) n a = 0) : OkQ (insA q a) ∧ look (insA q a) = upd (look q) a.code a := by
  obtain ⟨hm, hc, hu, hs⟩ := addE_inv h0
  have hL := look_ins hc
  refine ⟨⟨rise_ins h.rise hc, fun x hx => ?_, fun x hx => ?_, ?_⟩, hL⟩
  · rcases mem_ins.1 hx with rfl | hx
    · exact hm.1.1
    · exact h.pos x hx
  · rw [hL]
    have more : ∀ k, (look q k).isSome = true → (upd (look q) a.code a k).isSome = true := fun k hk => isSome_upd.2 (.inr hk)
    rcases mem_ins.1 hx with rfl | hx
    · exact hu.imp id (more _)
    · exact (h.cl x hx).imp id (more _)
  · rw [hL]
    exact low_upd h.low hc (fun k x hx => h.clF hx) h.zero (by have := hm.1.1; omega) hu he fun hk => (hs hk).2.2
theorem look_shR {x : Ac} (hx : look q c = some x) : look (shR q c) = upd (look q) c { x with sh := true } := by
  funext k
  have key : ∀ (r : List Ac), look (shR r c) k = if k = c then (look r c).map fun y => { y with sh := true } else look r k := fun r => by
    induction r with
    | nil => simp [shR, look]
    | cons y r ih =>
      rw [shR, List.map_cons, look, look, look]
      rw [shR] at ih
      rw [ih]
      by_cases hy : y.code = c
      · by_cases hk : k = c
        · subst hk; simp [hy]
        · have : ¬ c = k := fun e => hk e.symm
          simp [hy, hk, this]
      · by_cases hk : k = c
        · subst hk; simp [hy]
        · simp [hy, hk]
  rw [key, hx, upd]; rfl
theorem climb_congr {f g : Int → Option Ac} (h : ∀ k, upF g k = upF f k) : ∀ (i : Nat) (k : Int), climb g i k = climb f i k
  | 0, k => rfl
  | i + 1, k => by rw [climb, climb, h, climb_congr h]
theorem OkQ.shut {x : Ac} (h : OkQ q) (hx : look q c = some x) : OkQ (shR q c) ∧ look (shR q c) = upd (look q) c { x with sh := true } := by
  have hL := look_shR hx
  have codes : (shR q c).map Ac.code = q.map Ac.code := by
    rw [shR, List.map_map]
    exact List.map_congr_left fun y _ => by simp only [Function.comp]; split <;> rfl
  have some_iff : ∀ k, (upd (look q) c { x with sh := true } k).isSome = (look q k).isSome := fun k => by
    unfold upd
    by_cases e : k = c
    · subst e; rw [if_pos rfl, hx]; rfl
    · rw [if_neg e]
  have old : ∀ y ∈ shR q c, ∃ z ∈ q, y.code = z.code ∧ y.up = z.up := fun y hy => by
    obtain ⟨z, hz, rfl⟩ := List.mem_map.1 hy
    exact ⟨z, hz, by split <;> rfl, by split <;> rfl⟩
  refine ⟨⟨by rw [codes]; exact h.rise, fun y hy => ?_, fun y hy => ?_, ?_⟩, hL⟩
  · obtain ⟨z, hz, e, _⟩ := old y hy
    rw [e]; exact h.pos z hz
  · obtain ⟨z, hz, _, e⟩ := old y hy
    rw [e, hL, some_iff]; exact h.cl z hz
  · rw [hL]
    intro k
    rw [climb_congr (f := look q) fun k => ?_]
    · have := h.low k
      have e := some_iff (climb (look q) 8 k)
      rw [this] at e
      cases hy : upd (look q) c { x with sh := true } (climb (look q) 8 k) with
      | none => rfl
      | some y => rw [hy] at e; cases e
    · rw [upF, upF, upd]
      by_cases e : k = c
      · subst e; rw [if_pos rfl, hx]; rfl
      · rw [if_neg e]
theorem OkQ.shutE (h : OkQ q) : Go.KL.YtkojphmejddhiaaGreatDoor.shutE (look q) (undL q c q) c = shutRE q c := by
  rw [Go.KL.YtkojphmejddhiaaGreatDoor.shutE, shutRE]
  cases hx : look q c with
  | none => rfl
  | some x =>
    rw [if_pos (show (some x).isSome = true from rfl)]
    simp only
    obtain ⟨hxm, hxc⟩ := look_mem hx
    have hc : (look q c).isSome = true := by rw [hx]; rfl
    have key : (undL q c q).any (badK (look q) c) = (x.sh || q.any (badR q c)) := by
      rw [Bool.eq_iff_iff, Bool.or_eq_true, List.any_eq_true, List.any_eq_true]
      constructor
      · rintro ⟨k, hk, hb⟩
        obtain ⟨y, hy, rfl⟩ := List.mem_map.1 hk
        obtain ⟨hy1, hy2⟩ := List.mem_filter.1 hy
        rw [badK, look_of h.rise hy1] at hb
        by_cases e : y.code = c
        · left
          have : y = x := by have := look_of h.rise hy1; rw [e, hx] at this; exact (Option.some.inj this).symm
          subst this
          simpa [e] using hb
        · right
          refine ⟨y, hy1, ?_⟩
          rw [badR, hy2]
          simpa [e] using hb
      · rintro (hs | ⟨y, hy, hb⟩)
        · refine ⟨c, ?_, ?_⟩
          · rw [← hxc]
            refine List.mem_map_of_mem (List.mem_filter.2 ⟨hxm, ?_⟩)
            rw [hxc]
            exact isB_self h.low hc
          · rw [badK, hx]; simp [hs]
        · rw [badR, Bool.and_eq_true, Bool.and_eq_true] at hb
          obtain ⟨h1, h2, h3⟩ := hb
          refine ⟨y.code, List.mem_map_of_mem (List.mem_filter.2 ⟨hy, h2⟩), ?_⟩
          rw [badK, look_of h.rise hy]
          have := of_decide_eq_true h1
          simp only [Option.getD_some]
          rw [decide_eq_false this]
          simpa using h3
    rw [key]
    cases x.sh <;> simp
end
section
variable {ql : List Ac} {c : Int} {a : Ac} {o : O}
theorem shut_next (hok : OkQ ql) : (OkQ (if shutRE ql c = 0 then shR ql c else ql) ∧ (if shutRE ql c = 0 then shR ql c else ql).length = ql.length) ∧ ∀ o, Ch (shutF (look ql) (undL ql c ql) c) o → Ch (look (if shutRE ql c = 0 then shR ql c else ql)) o := by
  by_cases he : shutRE ql c = 0
  · rw [if_pos he]
    cases hx : look ql c with
    | none => rw [shutRE, hx] at he; exact absurd he (show ¬ (7 : Int) = 0 by decide)
    | some x =>
      obtain ⟨h1, h2⟩ := hok.shut hx
      refine ⟨⟨h1, by simp [shR]⟩, fun o ho => ?_⟩
      rw [shutF, hok.shutE, if_pos he, hx] at ho
      rw [h2]; exact ho
  · rw [if_neg he]
    refine ⟨⟨hok, rfl⟩, fun o ho => ?_⟩
    rw [shutF, hok.shutE, if_neg he] at ho
    exact ho
theorem add_next {n : Nat} (hok : OkQ ql) (he : ends (look ql) n a.up) : (OkQ (addR ql n a) ∧ (addR ql n a).length ≤ ql.length + 1) ∧ ∀ o, Ch (addF (look ql) n a) o → Ch (look (addR ql n a)) o := by
  unfold addR addF
  by_cases h0 : addE (look ql) n a = 0
  · rw [if_pos h0, if_pos h0]
    obtain ⟨h1, h2⟩ := hok.add he h0
    exact ⟨⟨h1, by rw [len_ins]; omega⟩, fun o ho => by rw [h2]; exact ho⟩
  · rw [if_neg h0, if_neg h0]
    exact ⟨⟨hok, by omega⟩, fun o ho => ho⟩
theorem add_hd {n : Nat} (hok : OkQ ql) (he : ends (look ql) n a.up) : (look ql a.up).isSome = true → climb (look ql) n a.up = 0 ∧ ∀ i, i < n → climb (look ql) i a.up ≠ 0 := fun hs => by
  refine ⟨?_, fun i hi e => ?_⟩
  · match n, he with
    | 0, he => exact absurd he.1 (by rw [show climb (look ql) 0 a.up = a.up from rfl]; intro h; rw [h] at hs; cases hs)
    | n + 1, he =>
      have h1 := he.2 n (by omega)
      obtain ⟨x, hx⟩ := Option.isSome_iff_exists.1 h1
      have h2 := he.1
      rw [climb_s, upF, hx] at h2 ⊢
      rcases hok.clF hx with h | h
      · exact h
      · simp only [Option.getD_some] at h2
        rw [h2] at h; cases h
  · have := he.2 i hi
    rw [e, hok.zero] at this; cases this
end
theorem ch_oc {f : Int → Option Ac} {o : O} (h : Ch f o) {n m k : Nat} (hk : k < n) : oScL n m [o, .arr [.map k]] = true := by
  simp only [oScL]
  rw [h.sc]
  simp [oSc, scL, D.sc, hk]
end Go.KL.YtkojphmejddhiaaGreatDoor
