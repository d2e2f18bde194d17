/- charts: the codes of a map, rising -/
import Derived.Test.YthaoejicodhgaaaSc
import Derived.Test.YthaoejicodhgaaaKL38
set_option linter.unusedVariables false
set_option linter.unusedSimpArgs false
set_option linter.unusedSectionVars false
set_option maxRecDepth 4000
namespace Go.KL.Ythaoejicodhgaaa
open Go Go.KL Go.RowKit Go.Proofs Go.Sort

theorem c93 : cFun E0.P 93 = some ⟨4, [(2, none)], .seq (.rg [⟨some 1, none, .box (.t 0) 49⟩, ⟨some 2, none, .mv (.k .nilfn)⟩]) (.seq (.rg [⟨some 3, none, .mkfn 123 [.t 1]⟩, ⟨some 2, none, .mv (.t 3)⟩]) .ret)⟩ := by kernel_rfl
theorem c123 : cFun E0.P 123 = some ⟨14, [], .seq (.rg [⟨some 4, none, .ld 1 false (.t 1)⟩, ⟨some 5, none, .rngM (.t 4)⟩]) (.block 0 (.loop (.seq (.rg [⟨some 6, none, .nxt (.t 5)⟩, ⟨some 7, none, .ext 0 (.t 6)⟩]) (.seq (.cond (.t 7) .skip (.exit 0)) (.block 1 (.seq (.rg [⟨some 8, none, .ent (.t 5)⟩, ⟨some 9, none, .ext 0 (.t 8)⟩, ⟨some 3, none, .mv (.t 9)⟩]) (.seq (.rg [⟨some 10, none, .mv (.t 0)⟩, ⟨some 11, none, .mv (.t 3)⟩, ⟨some 12, none, .callv (.t 10) [.t 11]⟩, ⟨some 13, none, .un .not (.t 12)⟩]) (.cond (.t 13) .ret .skip))))))))⟩ := by kernel_rfl
theorem c60 : cFun E0.P 60 = some ⟨6, [(2, none)], .seq (.rg [⟨some 2, none, .mv (.k .nilsl)⟩]) (.seq (.rg [⟨some 3, none, .mv (.t 0)⟩, ⟨some 4, none, .call 93 [.t 3]⟩, ⟨some 5, none, .call 92 [.t 4]⟩, ⟨some 2, none, .mv (.t 5)⟩]) .ret)⟩ := by kernel_rfl

structure SKy where
  d : Array Int
  vs : List Ent

theorem keysEnum {S : List O} {tk : Tks} {cell mid clk : Nat} {kt : KT} {l : List Ent} (hc : S[cell]? = some (.arr [.map mid])) (hM : S[mid]? = some (.map kt (entKv l) clk)) (hst : Stamps l clk) :
    Enum 123 cell S tk l.length (fun d => d.toList.Perm (l.map (·.1))) := by
  refine ⟨rfl, fun yid gS n hlen hosc hold hy => ?_⟩
  refine ACalls.fgo c123 rfl fun hS => ?_
  repeat' first | with_reducible refine fzD_ite (fun q => ?_) (fun q => ?_) | ((try conv => whnf); first
    | refine bs_d (fun q => ?_) (fun q => ?_)
    | refine bs_n ?_
    | refine bs_i (fun q => ?_) (fun q => ?_)
    | refine pK_i (ldO_old (hold _ _ _ hc) rfl) ?_
    | refine gk_rng_old rfl rfl rfl (hold _ _ _ hM) ?_
    | refine eqk rfl ?_
    | refine ffin _ rfl rfl hS (Sub.refl _) rfl ⟨?_, rfl, rfl⟩)
  refine floopS (α := SKy) rfl (fun s => s.vs.Nodup ∧ (∀ e ∈ s.vs, e ∈ l) ∧ s.d.toList = s.vs.map (·.1)) (fun s => l.length - s.vs.length) (fun s => [(0, .d (.yld yid)), (5, .d (.po (gS #[]).length 0))])
    (fun s => gS s.d) (fun s => [.iter mid clk (s.vs.map (·.2.2)) clk]) (fun _ => []) (fun s _ => ⟨by rw [hlen, hlen], by rw [hlen]; exact hosc _⟩) ⟨#[], []⟩ ⟨List.nodup_nil, by simp, rfl⟩ rfl (fstep_sub ⟨Sub.refl _, Sub.refl _, trivial⟩) ?_
  rintro s ⟨h1, h2, h3⟩
  have hsz : s.d.size = s.vs.length := by rw [← Array.length_toList, h3, List.length_map]
  repeat' first | with_reducible refine fzD_ite (fun q => ?_) (fun q => ?_) | ((try conv => whnf); first
    | refine bs_d (fun q => ?_) (fun q => ?_)
    | refine bs_n ?_
    | refine bs_i (fun q => ?_) (fun q => ?_)
    | (refine gk_nxt (it := 0) (by rw [hlen, hlen]) rfl rfl rfl (at_old (hold _ _ _ hM)) (.inr (entKv_first hst)) ?_ ?_; (rintro p hp hns; obtain ⟨e, he, rfl⟩ := List.mem_map.1 hp; obtain ⟨m1, m2, m3⟩ := hst.more h1 h2 he hns; skip); rotate_left; intro hall; rotate_left)
    | refine pK_i (entD_own (k := 0) (by rw [hlen, hlen]) rfl (at_old (hold _ _ _ hM)) hp (hst.kveq he)) ?_
    | refine ykT (S1 := gS (s.d.push e.1)) (J1 := [_]) (by rw [List.append_nil]; exact hy s.d e.1 _ (by omega)) rfl (by rw [hlen, hlen]) ?_
    | refine ffin _ (by rw [hlen, hlen]) rfl (by rw [hlen]; exact hosc _) (Sub.refl _) rfl ⟨rfl, rfl, s.d, by rw [h3]; exact (hst.full h1 h2 hall).map _, rfl⟩
    | refine eqk rfl ?_
    | refine ffin _ rfl rfl hS (Sub.refl _) rfl ⟨?_, rfl, rfl⟩)

  refine fnextS (α := SKy) ⟨s.d.push e.1, s.vs ++ [e]⟩ ⟨m1, m2, by simp [h3]⟩ (by simp only [List.length_append, List.length_singleton]; omega) rfl ?_
  simp only [List.map_append, List.map_cons, List.map_nil]
  exact fstep_sub ⟨Sub.refl _, Sub.refl _, trivial⟩
end Go.KL.Ythaoejicodhgaaa

/- charts: single accounts -/
set_option linter.unusedVariables false
set_option linter.unusedSimpArgs false
set_option linter.unusedSectionVars false
set_option maxRecDepth 4000
namespace Go.KL.Ythaoejicodhgaaa
open Go Go.KL Go.RowKit Go.Proofs Go.Sort

theorem c18 : cFun E0.P 18 = some ⟨11, [(2, none)], .seq (.rg [⟨some 2, none, .mv (.k (.int .i64 0))⟩]) (.seq (.seq (.rg [⟨some 3, none, .mv (.t 0)⟩]) (.block 0 (.seq (.seq (.rg [⟨some 5, none, .bin .eql .leaf (.t 3) (.k (.int .u8 1))⟩, ⟨some 4, none, .mv (.t 5)⟩]) (.cond (.t 4) .skip (.rg [⟨some 6, none, .bin .eql .leaf (.t 3) (.k (.int .u8 4))⟩, ⟨some 4, none, .mv (.t 6)⟩]))) (.cond (.t 4) (.seq (.rg [⟨some 2, none, .mv (.k (.int .i64 1))⟩]) .ret) (.seq (.seq (.rg [⟨some 8, none, .bin .eql .leaf (.t 3) (.k (.int .u8 2))⟩, ⟨some 7, none, .mv (.t 8)⟩]) (.cond (.t 7) .skip (.seq (.rg [⟨some 9, none, .bin .eql .leaf (.t 3) (.k (.int .u8 3))⟩, ⟨some 7, none, .mv (.t 9)⟩]) (.cond (.t 7) .skip (.rg [⟨some 10, none, .bin .eql .leaf (.t 3) (.k (.int .u8 5))⟩, ⟨some 7, none, .mv (.t 10)⟩]))))) (.cond (.t 7) (.seq (.rg [⟨some 2, none, .mv (.k (.int .i64 (-1)))⟩]) .ret) .skip)))))) (.seq (.rg [⟨some 2, none, .mv (.k (.int .i64 0))⟩]) .ret))⟩ := by kernel_rfl
theorem c56 : cFun E0.P 56 = some ⟨34, [(2, none)], .seq (.rg [⟨some 1, none, .box (.t 0) 27⟩, ⟨some 2, none, .mv (.k (.bool false))⟩]) (.seq (.rg [⟨some 3, none, .fa 0 (.t 1)⟩, ⟨some 4, none, .ld 1 false (.t 3)⟩, ⟨some 5, none, .bin .geq .leaf (.t 4) (.k (.int .i64 1))⟩, ⟨some 6, none, .mv (.t 5)⟩, ⟨some 7, some (6, true), .fa 0 (.t 1)⟩, ⟨some 8, some (6, true), .ld 1 false (.t 7)⟩, ⟨some 9, some (6, true), .bin .leq .leaf (.t 8) (.k (.int .i64 9999))⟩, ⟨some 10, none, .pick (.t 6) (.t 9) (.k (.bool false))⟩, ⟨some 11, none, .mv (.t 10)⟩, ⟨some 12, some (11, true), .fa 2 (.t 1)⟩, ⟨some 13, some (11, true), .ld 1 false (.t 12)⟩, ⟨some 14, some (11, true), .call 18 [.t 13]⟩, ⟨some 15, some (11, true), .bin .neq .leaf (.t 14) (.k (.int .i64 0))⟩, ⟨some 16, none, .pick (.t 11) (.t 15) (.k (.bool false))⟩, ⟨some 17, none, .mv (.t 16)⟩, ⟨some 18, some (17, true), .fa 3 (.t 1)⟩, ⟨some 19, some (17, true), .ld 1 false (.t 18)⟩, ⟨some 20, some (17, true), .len 0 (.t 19)⟩, ⟨some 21, some (17, true), .bin .geq .leaf (.t 20) (.k (.int .i64 1))⟩, ⟨some 22, none, .pick (.t 17) (.t 21) (.k (.bool false))⟩, ⟨some 23, none, .mv (.t 22)⟩, ⟨some 24, some (23, true), .fa 3 (.t 1)⟩, ⟨some 25, some (23, true), .ld 1 false (.t 24)⟩, ⟨some 26, some (23, true), .len 0 (.t 25)⟩, ⟨some 27, some (23, true), .bin .leq .leaf (.t 26) (.k (.int .i64 60))⟩, ⟨some 28, none, .pick (.t 23) (.t 27) (.k (.bool false))⟩, ⟨some 29, none, .mv (.t 28)⟩, ⟨some 30, some (29, true), .fa 4 (.t 1)⟩, ⟨some 31, some (29, true), .ld 1 false (.t 30)⟩, ⟨some 32, some (29, true), .un .not (.t 31)⟩, ⟨some 33, none, .pick (.t 29) (.t 32) (.k (.bool false))⟩, ⟨some 2, none, .mv (.t 33)⟩]) .ret)⟩ := by kernel_rfl
theorem c55 : cFun E0.P 55 = some ⟨12, [(2, none)], .seq (.rg [⟨some 2, none, .mv (.k (.bool false))⟩]) (.seq (.rg [⟨some 3, none, .mv (.t 0)⟩, ⟨some 4, none, .bin .eql .ptr (.t 3) (.k .nilp)⟩, ⟨some 5, none, .mv (.t 4)⟩, ⟨some 6, some (5, false), .mv (.t 0)⟩, ⟨some 7, some (5, false), .nilck (.t 6)⟩, ⟨some 8, some (5, false), .fa 0 (.t 7)⟩, ⟨some 9, some (5, false), .ld 1 false (.t 8)⟩, ⟨some 10, some (5, false), .bin .eql .map (.t 9) (.k .nilmap)⟩, ⟨some 11, none, .pick (.t 5) (.k (.bool true)) (.t 10)⟩, ⟨some 2, none, .mv (.t 11)⟩]) .ret)⟩ := by kernel_rfl
theorem c22 : cFun E0.P 22 = some ⟨24, [(4, some (5, true)), (5, none)], .seq (.rg [⟨some 4, none, .alloc [.int .i64 0, .int .i64 0, .int .u8 0, .str ⟨#[]⟩, .bool false] 27⟩, ⟨some 5, none, .mv (.k (.int .i64 0))⟩]) (.seq (.seq (.rg [⟨some 8, none, .mv (.t 0)⟩, ⟨some 9, none, .call 55 [.t 8]⟩]) (.cond (.t 9) (.seq (.rg [⟨some 10, none, .build [.int .i64 0, .int .i64 0, .int .u8 0, .str ⟨#[]⟩, .bool false] []⟩, ⟨none, none, .st 5 (.t 4) (.t 10)⟩, ⟨some 5, none, .mv (.k (.int .i64 1))⟩]) .ret) .skip)) (.seq (.rg [⟨some 12, none, .mv (.t 0)⟩, ⟨some 13, none, .nilck (.t 12)⟩, ⟨some 14, none, .fa 0 (.t 13)⟩, ⟨some 15, none, .ld 1 false (.t 14)⟩, ⟨some 16, none, .mv (.t 1)⟩, ⟨some 17, none, .mget (KT.lf (KLf.i .i64)) (.agg [.int .i64 0, .int .i64 0, .int .u8 0, .str ⟨#[]⟩, .bool false]) true (.t 15) (.t 16)⟩, ⟨some 11, none, .mv (.t 17)⟩, ⟨some 18, none, .ext 0 (.t 11)⟩, ⟨some 19, none, .ext 1 (.t 11)⟩, ⟨some 6, none, .alloc [.int .i64 0, .int .i64 0, .int .u8 0, .str ⟨#[]⟩, .bool false] 27⟩, ⟨none, none, .st 5 (.t 6) (.t 18)⟩, ⟨some 7, none, .mv (.t 19)⟩]) (.seq (.seq (.rg [⟨some 20, none, .mv (.t 7)⟩, ⟨some 21, none, .un .not (.t 20)⟩]) (.cond (.t 21) (.seq (.rg [⟨some 22, none, .build [.int .i64 0, .int .i64 0, .int .u8 0, .str ⟨#[]⟩, .bool false] []⟩, ⟨none, none, .st 5 (.t 4) (.t 22)⟩, ⟨some 5, none, .mv (.k (.int .i64 7))⟩]) .ret) .skip)) (.seq (.rg [⟨some 23, none, .ld 5 true (.t 6)⟩, ⟨none, none, .st 5 (.t 4) (.t 23)⟩, ⟨some 5, none, .mv (.k (.int .i64 0))⟩]) .ret))))⟩ := by kernel_rfl
theorem c57 : cFun E0.P 57 = some ⟨18, [(4, none)], .seq (.rg [⟨some 4, none, .mv (.k (.int .i64 0))⟩]) (.seq (.rg [⟨some 5, none, .mv (.k (.int .i64 0))⟩]) (.seq (.block 0 (.loop (.seq (.seq (.rg [⟨some 6, none, .mv (.t 1)⟩, ⟨some 7, none, .bin .neq .leaf (.t 6) (.k (.int .i64 0))⟩]) (.cond (.t 7) .skip (.exit 0))) (.block 1 (.seq (.rg [⟨some 8, none, .mv (.t 0)⟩, ⟨some 9, none, .nilck (.t 8)⟩, ⟨some 10, none, .fa 0 (.t 9)⟩, ⟨some 11, none, .ld 1 false (.t 10)⟩, ⟨some 12, none, .mv (.t 1)⟩, ⟨some 13, none, .mget (KT.lf (KLf.i .i64)) (.agg [.int .i64 0, .int .i64 0, .int .u8 0, .str ⟨#[]⟩, .bool false]) false (.t 11) (.t 12)⟩, ⟨some 14, none, .fd 1 1 false (.t 13)⟩, ⟨some 1, none, .mv (.t 14)⟩]) (.rg [⟨some 15, none, .mv (.t 5)⟩, ⟨some 16, none, .bin .add .leaf (.t 15) (.k (.int .i64 1))⟩, ⟨some 5, none, .mv (.t 16)⟩])))))) (.seq (.rg [⟨some 17, none, .mv (.t 5)⟩, ⟨some 4, none, .mv (.t 17)⟩]) .ret)))⟩ := by kernel_rfl
theorem c11 : cFun E0.P 11 = some ⟨4, [(0, none)], .seq (.rg [⟨some 0, none, .mv (.k .nilp)⟩]) (.seq (.rg [⟨some 1, none, .mkmap (KT.lf (KLf.i .i64))⟩, ⟨some 2, none, .build [.nilmap] [(0, 1, .t 1)]⟩, ⟨some 3, none, .box (.t 2) 51⟩, ⟨some 0, none, .mv (.t 3)⟩]) .ret)⟩ := by kernel_rfl

structure Ac where
  code : Int
  up : Int
  cl : Int
  nm : ByteArray
  sh : Bool
  deriving DecidableEq, Inhabited
def Ac.cs (a : Ac) : List D := [.int .i64 a.code, .int .i64 a.up, .int .u8 a.cl, .str a.nm, .bool a.sh]
def acD (a : Ac) : D := .agg a.cs
abbrev noAc : Ac := ⟨0, 0, 0, ⟨#[]⟩, false⟩
abbrev ktI : KT := .lf (.i .i64)

/-- a chart: where it lies, what it has -/
structure ChR (cid mid : Nat) (S : List O) (f : Int → Option Ac) (l : List Ent) (clk : Nat) : Prop where
  c : S[cid]? = some (.arr [.map mid])
  m : S[mid]? = some (.map ktI (entKv l) clk)
  r : MapR acD l clk f

theorem ChR.app {cid mid : Nat} {S J : List O} {f : Int → Option Ac} {l : List Ent} {clk : Nat} (h : ChR cid mid S f l clk) : ChR cid mid (S ++ J) f l clk := ⟨at_old h.c, at_old h.m, h.r⟩
def sideF (c : Int) : Int := if c = 1 ∨ c = 4 then 1 else if c = 2 ∨ c = 3 ∨ c = 5 then -1 else 0
theorem side (c : Int) : Pure 18 [.int .u8 c] (.int .i64 (sideF c)) := by
  intro S tk
  unfold sideF
  refine ACalls.fgo c18 rfl fun hS => ?_
  repeat' first | with_reducible refine fzD_ite (fun q => ?_) (fun q => ?_) | ((try conv => whnf); first
    | refine bs_d (fun q => ?_) (fun q => ?_)
    | refine bs_n ?_
    | refine bs_i (fun q => ?_) (fun q => ?_)
    | refine eqk rfl ?_
    | refine ffin _ rfl rfl hS (Sub.refl _) rfl ⟨?_, rfl, rfl⟩)
  all_goals first
    | (rw [if_pos (by omega)]; rfl)
    | (rw [if_neg (by omega), if_pos (by omega)]; rfl)
    | (rw [if_neg (by omega), if_neg (by omega)]; rfl)
def mayA (a : Ac) : Prop := (1 ≤ a.code ∧ a.code ≤ 9999) ∧ sideF a.cl ≠ 0 ∧ (1 ≤ a.nm.size ∧ a.nm.size ≤ 60) ∧ a.sh = false
instance (a : Ac) : Decidable (mayA a) := inferInstanceAs (Decidable ((1 ≤ a.code ∧ a.code ≤ 9999) ∧ sideF a.cl ≠ 0 ∧ (1 ≤ a.nm.size ∧ a.nm.size ≤ 60) ∧ a.sh = false))
theorem may (a : Ac) : Pure 56 [acD a] (.bool (decide (mayA a))) := by
  intro S tk
  refine ACalls.fgo c56 rfl fun hS => ?_
  repeat' first | with_reducible refine fzD_ite (fun q => ?_) (fun q => ?_) | ((try conv => whnf); first
    | refine bs_d (fun q => ?_) (fun q => ?_)
    | refine bs_n ?_
    | refine bs_i (fun q => ?_) (fun q => ?_)
    | refine ck (by first | rfl | simp) rfl (side _) ?_
    | refine cq (side _) ?_
    | refine eqk rfl ?_
    | refine ffin _ rfl rfl hS (Sub.refl _) rfl ⟨?_, rfl, rfl⟩)
  all_goals simp only [tupD, D.bool.injEq]
  all_goals symm
  all_goals first
    | exact decide_eq_true ⟨by omega, by assumption, by omega, by assumption⟩
    | exact decide_eq_false (fun h => by have := h.1; omega)
    | exact decide_eq_false (fun h => absurd (by assumption) h.2.1)
    | exact decide_eq_false (fun h => by have := h.2.2.1; omega)
    | exact decide_eq_false (fun h => by have := h.2.2.2; simp_all)
theorem none_nil : Pure 55 [.nilp] (.bool true) := by
  intro S tk
  refine ACalls.fgo c55 rfl fun hS => ?_
  repeat' first | with_reducible refine fzD_ite (fun q => ?_) (fun q => ?_) | ((try conv => whnf); first
    | refine bs_d (fun q => ?_) (fun q => ?_)
    | refine bs_n ?_
    | refine bs_i (fun q => ?_) (fun q => ?_)
    | refine eqk rfl ?_
    | refine ffin _ rfl rfl hS (Sub.refl _) rfl ⟨?_, rfl, rfl⟩)
  all_goals rfl
section
variable {cid mid clk : Nat} {S : List O} {tk : Tks} {f : Int → Option Ac} {l : List Ent}
theorem none_at (h : ChR cid mid S f l clk) : ACalls E0 55 [.po cid 0] S tk (fun r S' tk' => r = .bool false ∧ S' = S ∧ tk' = tk) := by
  refine ACalls.fgo c55 rfl fun hS => ?_
  repeat' first | with_reducible refine fzD_ite (fun q => ?_) (fun q => ?_) | ((try conv => whnf); first
    | refine bs_d (fun q => ?_) (fun q => ?_)
    | refine bs_n ?_
    | refine bs_i (fun q => ?_) (fun q => ?_)
    | refine pK_i (ldO_old h.c rfl) ?_
    | refine eqk rfl ?_
    | refine ffin _ rfl rfl hS (Sub.refl _) rfl ⟨?_, rfl, rfl⟩)
  all_goals rfl
theorem none_zero (h : S[cid]? = some (.arr [.nilmap])) : ACalls E0 55 [.po cid 0] S tk (fun r S' tk' => r = .bool true ∧ S' = S ∧ tk' = tk) := by
  refine ACalls.fgo c55 rfl fun hS => ?_
  repeat' first | with_reducible refine fzD_ite (fun q => ?_) (fun q => ?_) | ((try conv => whnf); first
    | refine bs_d (fun q => ?_) (fun q => ?_)
    | refine bs_n ?_
    | refine bs_i (fun q => ?_) (fun q => ?_)
    | refine pK_i (ldO_old h rfl) ?_
    | refine eqk rfl ?_
    | refine ffin _ rfl rfl hS (Sub.refl _) rfl ⟨?_, rfl, rfl⟩)
  all_goals rfl
theorem mgA {J : List O} (h : ChR cid mid S f l clk) (k : Int) : mgD ktI (.agg [.int .i64 0, .int .i64 0, .int .u8 0, .str ⟨#[]⟩, .bool false]) false (S ++ J) (.map mid) (.int .i64 k) = some (.agg ((f k).getD noAc).cs) := by
  rw [mgD_old h.m rfl, if_neg (by simp), show (D.int .i64 k) = kD k from rfl, mget_entKv, h.r.get]
  cases f k <;> rfl
theorem mgB {J : List O} (h : ChR cid mid S f l clk) (k : Int) : mgD ktI (.agg [.int .i64 0, .int .i64 0, .int .u8 0, .str ⟨#[]⟩, .bool false]) true (S ++ J) (.map mid) (.int .i64 k) = some (.tup [.agg ((f k).getD noAc).cs, .bool (f k).isSome]) := by
  rw [mgD_old h.m rfl, if_pos rfl, show (D.int .i64 k) = kD k from rfl, mget_entKv, mfind_some, h.r.get]
  cases f k <;> rfl
def getF (f : Int → Option Ac) (k : Int) : D := .tup [.agg ((f k).getD noAc).cs, .int .i64 (if (f k).isSome = true then 0 else 7)]
theorem get_at (h : ChR cid mid S f l clk) (k : Int) : ACalls E0 22 [.po cid 0, .int .i64 k] S tk (fun r S' tk' => r = getF f k ∧ S' = S ∧ tk' = tk) := by
  refine ACalls.fgo c22 rfl fun hS => ?_
  repeat' first | with_reducible refine fzD_ite (fun q => ?_) (fun q => ?_) | ((try conv => whnf); first
    | refine bs_d (fun q => ?_) (fun q => ?_)
    | refine bs_n ?_
    | refine bs_i (fun q => ?_) (fun q => ?_)
    | refine ckA rfl rfl (none_at h.app) ?_
    | refine pK_i (ldO_old h.c rfl) ?_
    | refine pK_i (mgB h k) ?_
    | refine eqk rfl ?_
    | refine ffin _ rfl rfl hS (Sub.refl _) rfl ⟨?_, rfl, rfl⟩)
  · unfold getF; rw [if_pos (by assumption)]; rfl
  · unfold getF
    cases hf : f k with
    | none => rfl
    | some a => simp_all
theorem get_nil (k : Int) : Pure 22 [.nilp, .int .i64 k] (.tup [.agg noAc.cs, .int .i64 1]) := by
  intro S tk
  refine ACalls.fgo c22 rfl fun hS => ?_
  repeat' first | with_reducible refine fzD_ite (fun q => ?_) (fun q => ?_) | ((try conv => whnf); first
    | refine bs_d (fun q => ?_) (fun q => ?_)
    | refine bs_n ?_
    | refine bs_i (fun q => ?_) (fun q => ?_)
    | refine ck (by first | rfl | simp) rfl (none_nil) ?_
    | refine cq (none_nil) ?_
    | refine eqk rfl ?_
    | refine ffin _ rfl rfl hS (Sub.refl _) rfl ⟨?_, rfl, rfl⟩)
  all_goals rfl
theorem get_zero (h : S[cid]? = some (.arr [.nilmap])) (k : Int) : ACalls E0 22 [.po cid 0, .int .i64 k] S tk (fun r S' tk' => r = .tup [.agg noAc.cs, .int .i64 1] ∧ S' = S ∧ tk' = tk) := by
  refine ACalls.fgo c22 rfl fun hS => ?_
  repeat' first | with_reducible refine fzD_ite (fun q => ?_) (fun q => ?_) | ((try conv => whnf); first
    | refine bs_d (fun q => ?_) (fun q => ?_)
    | refine bs_n ?_
    | refine bs_i (fun q => ?_) (fun q => ?_)
    | refine ckA rfl rfl (none_zero (at_old h)) ?_
    | refine eqk rfl ?_
    | refine ffin _ rfl rfl hS (Sub.refl _) rfl ⟨?_, rfl, rfl⟩)
  all_goals rfl

/-- so many steps up -/
def upF (f : Int → Option Ac) (k : Int) : Int := ((f k).getD noAc).up
def climb (f : Int → Option Ac) : Nat → Int → Int
  | 0, k => k
  | n + 1, k => climb f n (upF f k)
theorem depth_at (h : ChR cid mid S f l clk) (k : Int) (n : Nat) (hn : n < 4611686018427387904) (h0 : climb f n k = 0) (h1 : ∀ i, i < n → climb f i k ≠ 0) :
    ACalls E0 57 [.po cid 0, .int .i64 k] S tk (fun r S' tk' => r = .int .i64 n ∧ S' = S ∧ tk' = tk) := by
  have hc : ∀ i k, climb f (i + 1) k = upF f (climb f i k) := fun i => by
    induction i with
    | zero => intro k; rfl
    | succ i ih => intro k; rw [climb, ih]; rfl
  refine ACalls.fgo c57 rfl fun hS => ?_
  repeat' first | with_reducible refine fzD_ite (fun q => ?_) (fun q => ?_) | ((try conv => whnf); first
    | refine bs_d (fun q => ?_) (fun q => ?_)
    | refine bs_n ?_
    | refine bs_i (fun q => ?_) (fun q => ?_)
    | refine eqk rfl ?_
    | refine ffin _ rfl rfl hS (Sub.refl _) rfl ⟨?_, rfl, rfl⟩)
  refine floop (α := Nat) rfl rfl hS (fun i => i ≤ n) (fun i => n - i) (fun i => [(1, .d (.int .i64 (climb f i k))), (5, .d (.int .i64 i)), (0, .d (.po cid 0))]) (fun _ => []) (fun _ => []) 0 (Nat.zero_le _) (fstep_sub ⟨Sub.refl _, Sub.refl _, Sub.refl _, trivial⟩) ?_
  intro i hi
  repeat' first | with_reducible refine fzD_ite (fun q => ?_) (fun q => ?_) | ((try conv => whnf); first
    | refine bs_d (fun q => ?_) (fun q => ?_)
    | refine bs_n ?_
    | refine bs_i (fun q => ?_) (fun q => ?_)
    | refine pK_i (ldO_old h.c rfl) ?_
    | refine pK_i (mgA h _) ?_
    | refine eqk rfl ?_
    | refine ffin _ rfl rfl hS (Sub.refl _) rfl ⟨?_, rfl, rfl⟩)
  · have e : i = n := Classical.byContradiction fun hne => h1 i (by omega) (by assumption)
    rw [e]; rfl
  · have hlt : i < n := Classical.byContradiction fun hge => by
      have e : i = n := by omega
      rw [e] at q; exact q h0
    refine fnext (i + 1) (by omega) (by omega) (fstep_sub ⟨Sub.int ?_, Sub.int (by rw [wi64_id]; omega; unfold I64; omega), Sub.refl _, trivial⟩)
    rw [hc]; rfl
end
/-- an empty chart -/
theorem new_at (S : List O) (tk : Tks) : ACalls E0 11 [] S tk (fun r S' tk' => r = .po (S.length + 1) 0 ∧ S' = S ++ [.map ktI (entKv []) 0, .arr [.map S.length]] ∧ tk' = tk) := by
  refine ACalls.fgo c11 rfl fun hS => ?_
  repeat' first | with_reducible refine fzD_ite (fun q => ?_) (fun q => ?_) | ((try conv => whnf); first
    | refine bs_d (fun q => ?_) (fun q => ?_)
    | refine bs_n ?_
    | refine bs_i (fun q => ?_) (fun q => ?_)
    | refine ffinJ ⟨rfl, rfl, List.append_nil _⟩
    | refine eqk rfl ?_
    | refine ffin _ rfl rfl hS (Sub.refl _) rfl ⟨?_, rfl, rfl⟩)
end Go.KL.Ythaoejicodhgaaa

/- charts: the keys, rising; those under one -/
set_option linter.unusedVariables false
set_option linter.unusedSimpArgs false
set_option linter.unusedSectionVars false
set_option maxRecDepth 4000
namespace Go.KL.Ythaoejicodhgaaa
open Go Go.KL Go.RowKit Go.Proofs Go.Sort

theorem c21 : cFun E0.P 21 = some ⟨30, [(4, none)], .seq (.rg [⟨some 2, none, .box (.t 0) 23⟩, ⟨some 4, none, .mv (.k .nilsl)⟩]) (.seq (.seq (.rg [⟨some 11, none, .ld 1 false (.t 2)⟩, ⟨some 12, none, .mv (.t 1)⟩, ⟨some 13, none, .call 22 [.t 11, .t 12]⟩, ⟨some 10, none, .mv (.t 13)⟩, ⟨some 14, none, .ext 0 (.t 10)⟩, ⟨some 15, none, .ext 1 (.t 10)⟩, ⟨some 5, none, .alloc [.int .i64 0, .int .i64 0, .int .u8 0, .str ⟨#[]⟩, .bool false] 27⟩, ⟨none, none, .st 5 (.t 5) (.t 14)⟩, ⟨some 6, none, .mv (.t 15)⟩]) (.seq (.rg [⟨some 16, none, .mv (.t 6)⟩, ⟨some 17, none, .bin .neq .leaf (.t 16) (.k (.int .i64 0))⟩]) (.cond (.t 17) (.seq (.rg [⟨some 4, none, .mv (.k .nilsl)⟩]) .ret) .skip))) (.seq (.rg [⟨some 7, none, .alloc [.nilsl] 41⟩]) (.seq (.rg [⟨some 18, none, .ld 1 false (.t 2)⟩, ⟨some 19, none, .nilck (.t 18)⟩, ⟨some 20, none, .fa 0 (.t 19)⟩, ⟨some 21, none, .ld 1 false (.t 20)⟩, ⟨some 22, none, .call 60 [.t 21]⟩, ⟨some 8, none, .alloc [.nilsl] 41⟩, ⟨none, none, .st 1 (.t 8) (.t 22)⟩]) (.seq (.rg [⟨some 9, none, .alloc [.nilfn] 117⟩]) (.seq (.rg [⟨some 23, none, .mkfn 61 [.t 7, .t 8, .t 2, .t 9]⟩, ⟨none, none, .st 1 (.t 9) (.t 23)⟩]) (.seq (.rg [⟨some 24, none, .ld 1 false (.t 9)⟩, ⟨some 25, none, .mv (.t 1)⟩, ⟨some 26, none, .callv (.t 24) [.t 25]⟩]) (.seq (.rg [⟨some 27, none, .ld 1 false (.t 7)⟩, ⟨some 28, none, .call 62 [.t 27]⟩]) (.seq (.rg [⟨some 29, none, .ld 1 false (.t 7)⟩, ⟨some 4, none, .mv (.t 29)⟩]) .ret))))))))⟩ := by kernel_rfl
theorem c61 : cFun E0.P 61 = some ⟨31, [], .seq (.rg [⟨some 8, none, .ld 1 false (.t 1)⟩, ⟨some 9, none, .mv (.t 0)⟩, ⟨some 10, none, .buildS 1 1 [.int .i64 0] [(0, .t 9)] 3⟩, ⟨some 11, none, .app 41 3 1 8 [.int .i64 0] (.t 8) (.t 10)⟩, ⟨none, none, .st 1 (.t 1) (.t 11)⟩]) (.seq (.rg [⟨some 12, none, .ld 1 false (.t 2)⟩, ⟨some 13, none, .len 1 (.t 12)⟩, ⟨some 14, none, .mv (.k (.int .i64 0))⟩]) (.block 0 (.loop (.seq (.rg [⟨some 15, none, .bin .lss .leaf (.t 14) (.t 13)⟩]) (.seq (.cond (.t 15) .skip (.exit 0)) (.seq (.block 1 (.seq (.rg [⟨some 16, none, .ia 1 (.t 12) (.t 14)⟩, ⟨some 17, none, .ld 1 false (.t 16)⟩, ⟨some 7, none, .mv (.t 17)⟩]) (.seq (.rg [⟨some 18, none, .ld 1 false (.t 3)⟩, ⟨some 19, none, .nilck (.t 18)⟩, ⟨some 20, none, .fa 0 (.t 19)⟩, ⟨some 21, none, .ld 1 false (.t 20)⟩, ⟨some 22, none, .mv (.t 7)⟩, ⟨some 23, none, .mget (KT.lf (KLf.i .i64)) (.agg [.int .i64 0, .int .i64 0, .int .u8 0, .str ⟨#[]⟩, .bool false]) false (.t 21) (.t 22)⟩, ⟨some 24, none, .fd 1 1 false (.t 23)⟩, ⟨some 25, none, .mv (.t 0)⟩, ⟨some 26, none, .bin .eql .leaf (.t 24) (.t 25)⟩]) (.cond (.t 26) (.rg [⟨some 27, none, .ld 1 false (.t 4)⟩, ⟨some 28, none, .mv (.t 7)⟩, ⟨some 29, none, .callv (.t 27) [.t 28]⟩]) .skip)))) (.rg [⟨some 30, none, .bin .add .leaf (.t 14) (.k (.int .i64 1))⟩, ⟨some 14, none, .mv (.t 30)⟩])))))))⟩ := by kernel_rfl
theorem c24 : cFun E0.P 24 = some ⟨10, [(4, none)], .seq (.rg [⟨some 4, none, .mv (.k (.bool false))⟩]) (.seq (.rg [⟨some 5, none, .mv (.t 0)⟩, ⟨some 6, none, .mv (.t 1)⟩, ⟨some 7, none, .call 21 [.t 5, .t 6]⟩, ⟨some 8, none, .len 1 (.t 7)⟩, ⟨some 9, none, .bin .eql .leaf (.t 8) (.k (.int .i64 1))⟩, ⟨some 4, none, .mv (.t 9)⟩]) .ret)⟩ := by kernel_rfl

theorem keysC (mid : Nat) (S : List O) (tk : Tks) : ACalls E0 93 [.map mid] S tk (fun r S' tk' => r = .fn 123 [.po S.length 0] ∧ S' = S ++ [.arr [.map mid]] ∧ tk' = tk) := by
  refine ACalls.fgo c93 rfl fun hS => ?_
  repeat' first | with_reducible refine fzD_ite (fun q => ?_) (fun q => ?_) | ((try conv => whnf); first
    | refine bs_d (fun q => ?_) (fun q => ?_)
    | refine bs_n ?_
    | refine bs_i (fun q => ?_) (fun q => ?_)
    | refine ffinJ ⟨rfl, rfl, List.append_nil _⟩
    | refine eqk rfl ?_
    | refine ffin _ rfl rfl hS (Sub.refl _) rfl ⟨?_, rfl, rfl⟩)
theorem sc_i64s (n m : Nat) : ∀ (l : List Int), scLL n m (i64s l) = true
  | [] => rfl
  | x :: r => by
    have := sc_i64s n m r
    unfold i64s at this ⊢
    simp only [List.map_cons, scLL, this, Bool.and_true]; rfl
def keysOf (f : Int → Option Ac) (L : List Int) : Prop := L.Pairwise (· < ·) ∧ ∀ k, k ∈ L ↔ (f k).isSome = true
theorem rowsV_i64s (l : List Int) : rowsV kD l = i64s l := rfl
section
variable {cid mid clk : Nat} {S : List O} {tk : Tks} {f : Int → Option Ac} {l : List Ent}
theorem keys_at (h : ChR cid mid S f l clk) (hN : l.length < 1099511627776) {L : List Int} (hL : keysOf f L) :
    ACalls E0 60 [.map mid] S tk (fun r S' tk' => r = .sl (i64s L) ∧ S' = S ∧ tk' = tk) := by
  have hmk : (S ++ [O.arr [.map mid]])[mid]? = some (.map ktI (entKv l) clk) := at_old h.m
  have hck : (S ++ [O.arr [.map mid]])[S.length]? = some (.arr [.map mid]) := by simp
  refine ACalls.fgo c60 rfl fun hS => ?_
  repeat' first | with_reducible refine fzD_ite (fun q => ?_) (fun q => ?_) | ((try conv => whnf); first
    | refine bs_d (fun q => ?_) (fun q => ?_)
    | refine bs_n ?_
    | refine bs_i (fun q => ?_) (fun q => ?_)
    | refine ckN rfl rfl (d := .fn 123 [.po S.length 0]) (by have := keysC mid S tk; rw [List.append_nil, List.append_nil]; exact this) ?_
    | (refine ckG (by rw [List.append_nil]; exact sorted (N := l.length) hN (fun d hd => by rw [← Array.length_toList, hd.length_eq, List.length_map]; exact Nat.le_refl _) (keysEnum hck hmk h.r.st)) ?_; rintro r S' tk' ⟨d, d', hgood, hsort, rfl, rfl, rfl⟩; refine ⟨S, [O.arr [.map mid]], tk', [], rfl, (List.append_nil _).symm, rfl, rfl, ?_⟩; rw [rowsV_i64s])
    | refine ffin _ rfl rfl hS (Sub.refl _) ?_ ⟨?_, rfl, rfl⟩
    | refine eqk rfl ?_
    | refine ffin _ rfl rfl hS (Sub.refl _) rfl ⟨?_, rfl, rfl⟩)
  · have : scLL S.length (List.length tk') (i64s d'.toList) = true := sc_i64s ..
    simp [tupD, D.sc, this]
  · have hsl := Sorts.list hsort
    have hperm : d'.toList.Perm (l.map (·.1)) := hsl.1.trans hgood
    have e : d'.toList = L := rising_ext (rising_of hsl.2 (hperm.nodup_iff.2 h.r.nd)) hL.1 fun k => by rw [hperm.mem_iff, hL.2, h.r.mem]
    rw [e]; rfl
end

/-- those under one: it, and those under each whose Up it is -/
def pre (f : Int → Option Ac) (L : List Int) : Nat → Int → List Int
  | 0, _ => []
  | n + 1, c => c :: L.flatMap fun k => if upF f k = c then pre f L n k else []
/-- nothing is deeper under one than n -/
def deep (f : Int → Option Ac) (L : List Int) : Nat → Int → Prop
  | 0, _ => False
  | n + 1, c => ∀ k ∈ L, upF f k = c → deep f L n k

structure GP where
  cid : Nat
  mid : Nat
  oc : Nat
  vid : Nat
  kc : Nat
  cc : Nat
  gc : Nat
def gth (g : GP) : D := .fn 61 [.po g.oc 0, .po g.kc 0, .po g.cc 0, .po g.gc 0]
def gS (g : GP) (S0 : List O) (d : Array Int) : List O := (S0.set g.oc (.arr [.vec g.vid d.size 1])).set g.vid (VI d)
structure GP.In (g : GP) (S0 : List O) (f : Int → Option Ac) (l : List Ent) (clk : Nat) (L : List Int) : Prop where
  ch : ChR g.cid g.mid S0 f l clk
  oc : g.oc < S0.length
  vid : g.vid < S0.length
  ne : g.oc ≠ g.vid
  k : S0[g.kc]? = some (.arr [.sl (i64s L)])
  c : S0[g.cc]? = some (.arr [.po g.cid 0])
  gg : S0[g.gc]? = some (.arr [gth g])
  n1 : ∀ i, i = g.cid ∨ i = g.mid ∨ i = g.kc ∨ i = g.cc ∨ i = g.gc → i ≠ g.oc ∧ i ≠ g.vid
section
variable {g : GP} {S0 J : List O} {f : Int → Option Ac} {l : List Ent} {clk : Nat} {L : List Int} {d : Array Int}
theorem gS_len : (gS g S0 d).length = S0.length := by simp [gS]
theorem gS_at (h : g.In S0 f l clk L) {i : Nat} {o : O} (hi : i = g.cid ∨ i = g.mid ∨ i = g.kc ∨ i = g.cc ∨ i = g.gc) (ho : S0[i]? = some o) : (gS g S0 d)[i]? = some o := by
  obtain ⟨a, b⟩ := h.n1 i hi
  rw [gS, List.getElem?_set_ne (Ne.symm b), List.getElem?_set_ne (Ne.symm a)]; exact ho
theorem gS_oc (h : g.In S0 f l clk L) : (gS g S0 d)[g.oc]? = some (.arr [.vec g.vid d.size 1]) := by
  rw [gS, List.getElem?_set_ne (Ne.symm h.ne), List.getElem?_set_self h.oc]
theorem gS_vid (h : g.In S0 f l clk L) : (gS g S0 d)[g.vid]? = some (VI d) := by
  rw [gS, List.getElem?_set_self (by rw [List.length_set]; exact h.vid)]
theorem gS_ch (h : g.In S0 f l clk L) : ChR g.cid g.mid (gS g S0 d) f l clk := ⟨gS_at h (by simp) h.ch.c, gS_at h (by simp) h.ch.m, h.ch.r⟩
theorem gS_push (h : g.In S0 f l clk L) (k : Int) : ((gS g S0 d).set g.vid (.vec (rowsV kD d.toList ++ [[D.int IntKind.i64 k]]) 3 1)).set g.oc (.arr [.vec g.vid (rowsV kD d.toList ++ [[D.int IntKind.i64 k]]).length 1]) = gS g S0 (d.push k) := by
  rw [show (rowsV kD d.toList ++ [[D.int IntKind.i64 k]]) = rowsV kD (d.push k).toList from rows_push d k, rowsV_len, Array.length_toList, gS, List.set_set, List.set_comm _ _ (Ne.symm h.ne), List.set_set]
  rfl
variable {fr : Fr} {n0 m0 : Nat} {T TK : Tks}
theorem gk_stO {x v : Opd} {k : Int} {K : FD → List O → List O → Tks → Tks → Prop} (h : g.In S0 f l clk L) (hn : S0.length = n0) (hm : T.length = m0) (hx : fev E0 fr x = .d (.po g.oc 0)) (hv : (fev E0 fr v).to n0 = .vec g.vid (rowsV kD d.toList ++ [[D.int IntKind.i64 k]]).length 1)
    (hK : K (.d .top) (gS g S0 (d.push k)) J T TK) : GK E0 n0 m0 (.st 1 x v) fr ((gS g S0 d).set g.vid (.vec (rowsV kD d.toList ++ [[D.int IntKind.i64 k]]) 3 1)) J T TK K := by
  refine gk_stpo_old (by rw [List.length_set, gS_len]; exact hn) hm hx (by rw [List.getElem?_set_ne (Ne.symm h.ne)]; exact gS_oc h) hv ⟨rfl, rfl, rfl, Nat.le_refl _⟩ ?_
  rw [show setC [D.vec g.vid d.size 1] 0 (D.vec g.vid (rowsV kD d.toList ++ [[D.int IntKind.i64 k]]).length 1).cs = [.vec g.vid (rowsV kD d.toList ++ [[D.int IntKind.i64 k]]).length 1] from rfl, gS_push h]
  exact hK
theorem GP.In.app (h : g.In S0 f l clk L) : g.In (S0 ++ J) f l clk L :=
  ⟨h.ch.app, by simp; have := h.oc; omega, by simp; have := h.vid; omega, h.ne, at_old h.k, at_old h.c, at_old h.gg, h.n1⟩
theorem gS_app (h : g.In S0 f l clk L) : gS g (S0 ++ J) d = gS g S0 d ++ J := by
  rw [gS, List.set_append_left _ _ h.oc, List.set_append_left _ _ (by rw [List.length_set]; exact h.vid)]; rfl
theorem gS_osc {n m : Nat} (h : g.In S0 f l clk L) (hn : S0.length = n) (d' : Array Int) (hO : OSc n m (gS g S0 d)) : OSc n m (gS g S0 d') := by
  have e : gS g S0 d' = ((gS g S0 d).set g.oc (.arr [.vec g.vid d'.size 1])).set g.vid (VI d') := by
    have h5 : ((S0.set g.oc (.arr [.vec g.vid d.size 1])).set g.vid (VI d)).set g.oc (.arr [.vec g.vid d'.size 1]) = (S0.set g.oc (.arr [.vec g.vid d'.size 1])).set g.vid (VI d) := by rw [List.set_comm _ _ (Ne.symm h.ne), List.set_set]
    rw [gS, gS, h5, List.set_set]
  rw [e]
  have := h.vid
  exact (hO.set (oSc_osc (by simp [oSc, scL, D.sc]; omega))).set (oSc_osc (by simp [oSc, VO, scLL_rows kE]))
end

structure GW where
  i : Nat
  d : Array Int
set_option maxHeartbeats 1000000 in
theorem gather {g : GP} {S0 : List O} {f : Int → Option Ac} {l : List Ent} {clk : Nat} {L : List Int} (h : g.In S0 f l clk L) (hLl : L.length < 1000000) : ∀ (n : Nat) (c : Int) (d : Array Int) (J : List O) (tk : Tks), deep f L n c → d.size + (pre f L n c).length < 1000000 →
    ACalls E0 61 [.int .i64 c, .po g.oc 0, .po g.kc 0, .po g.cc 0, .po g.gc 0] (gS g (S0 ++ J) d) tk (fun r S' tk' => r = .tup [] ∧ S' = gS g (S0 ++ J) (d ++ (pre f L n c).toArray) ∧ tk' = tk) := by
  intro n
  induction n with
  | zero => intro c d J tk hd; exact hd.elim
  | succ n ih =>
  intro c d J tk hd hsz
  have Llen := i64s_len L
  have hq : g.In (S0 ++ J) f l clk L := h.app
  refine ACalls.fgo c61 rfl fun hS => ?_
  repeat' first | with_reducible refine fzD_ite (fun q => ?_) (fun q => ?_) | ((try conv => whnf); first
    | refine bs_d (fun q => ?_) (fun q => ?_)
    | refine bs_n ?_
    | refine bs_i (fun q => ?_) (fun q => ?_)
    | refine pK_i (ldO_old (gS_oc hq) rfl) ?_
    | refine pK_i (ldO_old (gS_at hq (by simp) hq.k) rfl) ?_
    | refine gk_appv_old rfl rfl rfl (gS_vid hq) (by rw [rowsV_len, Array.length_toList]) rfl (by simp) (by rw [rowsV_len, Array.length_toList]; simp [maxLen]; omega) ?_
    | refine gk_stO (k := c) hq gS_len.symm rfl rfl rfl ?_
    | refine eqk rfl ?_
    | refine ffin _ rfl rfl hS (Sub.refl _) rfl ⟨?_, rfl, rfl⟩)
  have hfl : ∀ i, i < L.length → ((L.take i).flatMap fun k => if upF f k = c then pre f L n k else []).length + (if upF f L[i]! = c then pre f L n L[i]! else []).length ≤ (L.flatMap fun k => if upF f k = c then pre f L n k else []).length := fun i hi => by
    have e := congrArg List.length (congrArg (List.flatMap fun k => if upF f k = c then pre f L n k else []) (List.take_append_drop (i + 1) L))
    rw [List.flatMap_append, List.length_append, List.take_add_one, List.getElem?_eq_getElem hi, List.flatMap_append, List.length_append] at e
    rw [getElem!_pos L i hi]
    simp only [Option.toList_some, List.flatMap_cons, List.flatMap_nil, List.append_nil] at e
    omega
  simp only [pre, List.length_cons] at hsz
  refine floopS (α := GW) rfl (fun e => e.i ≤ L.length ∧ e.d = d.push c ++ ((L.take e.i).flatMap fun k => if upF f k = c then pre f L n k else []).toArray) (fun e => L.length - e.i) (fun e => [(14, .d (.int .i64 e.i)), (13, .d (.int .i64 L.length)), (12, .d (.sl (i64s L))), (0, .d (.int .i64 c)), (3, .d (.po g.cc 0)), (4, .d (.po g.gc 0))])
    (fun e => gS g (S0 ++ J) e.d) (fun _ => []) (fun _ => []) (fun e _ => ⟨gS_len.trans gS_len.symm, gS_osc hq gS_len.symm _ hS⟩) ⟨0, d.push c⟩ ⟨Nat.zero_le _, by simp⟩ rfl (fstep_sub ⟨Sub.refl _, Sub.int (by rw [Llen]), Sub.refl _, Sub.refl _, Sub.refl _, Sub.refl _, trivial⟩) ?_
  rintro e ⟨h1, h2⟩
  have hes : e.d.size = d.size + 1 + ((L.take e.i).flatMap fun k => if upF f k = c then pre f L n k else []).length := by rw [h2]; simp only [Array.size_append, Array.size_push, List.size_toArray]
  have iaK : ∀ {i : Nat} {n : Int}, n = i → i < L.length → iaD 1 (.sl (i64s L)) (.int .i64 n) = some (.pe [.int .i64 L[i]!] 0) := fun {i n} h hi => by
    subst h
    exact iaD_i64s (by omega) (by rw [Int.toNat_natCast, List.getElem?_eq_getElem hi, getElem!_pos L i hi])
  repeat' first | with_reducible refine fzD_ite (fun q => ?_) (fun q => ?_) | ((try conv => whnf); first
    | refine bs_d (fun q => ?_) (fun q => ?_) <;> (try simp (disch := ((try unfold I64); omega)) only [wi64_id, td] at q)
    | refine bs_n ?_
    | refine bs_i (fun q => ?_) (fun q => ?_)
    | refine pK_i (iaK (i := e.i) (by first | rfl | omega | (refine Int.sub_eq_zero.mp ?_; simp (disch := ((try unfold I64); omega)) only [wi64_id, td]; omega)) (by omega)) ?_
    | refine pK_i (ldO_old (gS_at hq (by simp) hq.c) rfl) ?_
    | refine pK_i (ldO_old (gS_at hq (by simp) hq.gg) rfl) ?_
    | refine pK_i (ldO_old (gS_ch hq).c rfl) ?_
    | refine pK_i (mgA (gS_ch hq) _) ?_
    | (refine ckG (by rw [List.append_nil, List.append_nil]; exact ih L[e.i]! e.d J tk (hd _ (by rw [getElem!_pos L e.i (by omega)]; exact List.getElem_mem _) (by assumption)) (by have := hfl e.i (by omega); rw [if_pos (show upF f L[e.i]! = c by assumption)] at this; omega)) ?_; rintro r S' tk' ⟨rfl, rfl, rfl⟩; refine ⟨_, [], _, [], (List.append_nil _).symm, (List.append_nil _).symm, gS_len.trans gS_len.symm, rfl, ?_⟩)
    | refine ffin (.tup []) (gS_len.trans gS_len.symm) rfl (gS_osc hq gS_len.symm _ hS) (Sub.refl _) rfl ⟨rfl, ?_, rfl⟩
    | refine eqk rfl ?_
    | refine ffin _ rfl rfl hS (Sub.refl _) rfl ⟨?_, rfl, rfl⟩)
  · have hi : e.i < L.length := by omega
    have hq1 : upF f L[e.i]! = c := by assumption
    conv => whnf
    refine fnextS (α := GW) ⟨e.i + 1, e.d ++ (pre f L n L[e.i]!).toArray⟩ ⟨by simp only; omega, ?_⟩ (by simp only; omega) rfl (fstep_sub ⟨Sub.int (by first | rfl | omega | (refine Int.sub_eq_zero.mp ?_; simp (disch := ((try unfold I64); omega)) only [wi64_id, td]; omega)), Sub.refl _, Sub.refl _, Sub.refl _, Sub.refl _, Sub.refl _, trivial⟩)
    simp only
    rw [List.take_add_one, List.getElem?_eq_getElem hi, List.flatMap_append, h2, ← getElem!_pos L e.i hi]
    simp only [Option.toList_some, List.flatMap_cons, List.flatMap_nil, List.append_nil, if_pos hq1]
    rw [Array.append_assoc]
    simp
  · have hi : e.i < L.length := by omega
    have hq1 : ¬ upF f L[e.i]! = c := by assumption
    conv => whnf
    refine fnextS (α := GW) ⟨e.i + 1, e.d⟩ ⟨by simp only; omega, ?_⟩ (by simp only; omega) rfl (fstep_sub ⟨Sub.int (by first | rfl | omega | (refine Int.sub_eq_zero.mp ?_; simp (disch := ((try unfold I64); omega)) only [wi64_id, td]; omega)), Sub.refl _, Sub.refl _, Sub.refl _, Sub.refl _, Sub.refl _, trivial⟩)
    simp only
    rw [List.take_add_one, List.getElem?_eq_getElem hi, List.flatMap_append, h2, ← getElem!_pos L e.i hi]
    simp only [Option.toList_some, List.flatMap_cons, List.flatMap_nil, List.append_nil, if_neg hq1]
  · rw [h2, List.take_of_length_le (by omega)]
    congr 1
    simp [pre]
end Go.KL.Ythaoejicodhgaaa

/- charts: those under one, leaves -/
set_option linter.unusedVariables false
set_option linter.unusedSimpArgs false
set_option linter.unusedSectionVars false
set_option maxRecDepth 4000
namespace Go.KL.Ythaoejicodhgaaa
open Go Go.KL Go.RowKit Go.Proofs Go.Sort

theorem set_self {α : Type} {X : List α} {i : Nat} {o : α} (h : X[i]? = some o) : X.set i o = X := by
  obtain ⟨a, b⟩ := List.getElem?_eq_some_iff.1 h
  rw [← b, List.set_getElem_self]
/-- those under one, as an answer -/
structure UnderOf (f : Int → Option Ac) (L : List Int) (c : Int) (U : List Int) : Prop where
  no : f c = none → U = []
  yes : f c ≠ none → ∃ n, deep f L n c ∧ (pre f L n c).length < 1000000 ∧ (pre f L n c).Nodup ∧ U.Pairwise (· < ·) ∧ ∀ k, k ∈ U ↔ k ∈ pre f L n c
def unG (cid mid n : Nat) : GP := ⟨cid, mid, n + 2, n + 5, n + 3, n + 0, n + 4⟩
def unJ (cid : Nat) (g : GP) (a : Ac) (L : List Int) (n : Nat) (d : Array Int) : List O := [.arr [.po cid 0], .arr a.cs, .arr [.vec (n + 5) d.size 1], .arr [.sl (i64s L)], .arr [gth g], VI d]
theorem unJ_0 {cid mid : Nat} {S : List O} {a : Ac} {L : List Int} : gS (unG cid mid S.length) (S ++ unJ cid (unG cid mid S.length) a L S.length #[]) #[] = S ++ unJ cid (unG cid mid S.length) a L S.length #[] := by
  rw [gS]
  show ((S ++ _).set (S.length + 2) _).set (S.length + 5) _ = _
  rw [set_own rfl, set_own rfl]; rfl
theorem unJ_1 {cid mid : Nat} {S : List O} {a : Ac} {L : List Int} {d : Array Int} : gS (unG cid mid S.length) (S ++ unJ cid (unG cid mid S.length) a L S.length #[]) d = S ++ unJ cid (unG cid mid S.length) a L S.length d := by
  rw [gS]
  show ((S ++ _).set (S.length + 2) _).set (S.length + 5) _ = _
  rw [set_own rfl, set_own rfl]; rfl
section
variable {cid mid clk : Nat} {S : List O} {tk : Tks} {f : Int → Option Ac} {l : List Ent} {L : List Int}
theorem Sub.nilE : Sub .nilsl (.sl []) := Sub.rd rfl
set_option maxHeartbeats 1000000 in
theorem under_at (h : ChR cid mid S f l clk) (hN : l.length < 1000000) (hL : keysOf f L) (hLl : L.length < 1000000) (c : Int) {U : List Int} (hU : UnderOf f L c U) :
    ACalls E0 21 [.po cid 0, .int .i64 c] S tk (fun r S' tk' => r = .sl (i64s U) ∧ S' = S ∧ tk' = tk) := by
  have hcl : cid < S.length := (List.getElem?_eq_some_iff.1 h.c).1
  have hml : mid < S.length := (List.getElem?_eq_some_iff.1 h.m).1
  refine ACalls.fgoC c21 rfl [8] rfl fun hS => ?_
  repeat' first | with_reducible refine fzD_ite (fun q => ?_) (fun q => ?_) | ((try conv => whnf); first
    | refine bs_d (fun q => ?_) (fun q => ?_)
    | refine bs_n ?_
    | refine bs_i (fun q => ?_) (fun q => ?_)
    | refine ckA rfl rfl (get_at h.app c) ?_
    | refine pK_i (ldO_old h.c rfl) ?_
    | refine ckA rfl rfl (keys_at h.app (by omega) hL) ?_
    | refine ffin (.sl []) rfl rfl hS Sub.nilE rfl ⟨?_, rfl, rfl⟩
    | refine eqk rfl ?_
    | refine ffin _ rfl rfl hS (Sub.refl _) rfl ⟨?_, rfl, rfl⟩)
  · obtain ⟨n, hd, hp, hnd, hr, hm⟩ := hU.yes (fun hn => by simp_all)
    refine fcut (α := Unit) rfl (fun _ => True) (fun _ => [(9, .lp 4 0), (1, .d (.int .i64 c)), (7, .lp 2 0)]) (fun _ => S) (fun _ => [.arr [.po cid 0], .arr ((f c).getD noAc).cs, .arr [.vec (S.length + 5) 0 1], .arr [.sl (i64s L)], .arr [gth (unG cid mid S.length)], .vec [] 3 1]) (fun _ => []) (fun _ _ => ⟨rfl, hS⟩) ?_ fun _ _ => ?_
    · skip
      repeat' first | with_reducible refine fzD_ite (fun q => ?_) (fun q => ?_) | ((try conv => whnf); first
        | refine bs_d (fun q => ?_) (fun q => ?_)
        | refine bs_n ?_
        | refine bs_i (fun q => ?_) (fun q => ?_)
        | refine eqk rfl ?_
        | refine ffin _ rfl rfl hS (Sub.refl _) rfl ⟨?_, rfl, rfl⟩)
      refine fcnext (α := Unit) () trivial rfl (fstep_cellvec (k := 2) (cs := [.nilsl]) 3 1 rfl 0 rfl ⟨Sub.refl _, Sub.refl _, Sub.refl _, trivial⟩)
    have hIn : (unG cid mid S.length).In (S ++ unJ cid (unG cid mid S.length) ((f c).getD noAc) L S.length #[]) f l clk L :=
      ⟨h.app, by simp [unG, unJ], by simp [unG, unJ], by simp [unG], at_own rfl rfl, at_own rfl rfl, at_own rfl rfl, by intro i hi; simp only [unG] at hi ⊢; omega⟩
    have hG := gather hIn hLl n c #[] [] tk hd (by simpa using hp)
    rw [List.append_nil, unJ_0, Array.empty_append] at hG
    rw [unJ_1] at hG
    conv => whnf
    refine ckG (by rw [List.append_nil]; exact hG) ?_
    rintro r S' tk' ⟨rfl, rfl, rfl⟩
    refine ⟨S, unJ cid (unG cid mid S.length) ((f c).getD noAc) L S.length (pre f L n c).toArray, _, [], rfl, (List.append_nil _).symm, rfl, rfl, ?_⟩
    repeat' first | with_reducible refine fzD_ite (fun q => ?_) (fun q => ?_) | ((try conv => whnf); first
      | refine bs_d (fun q => ?_) (fun q => ?_)
      | refine bs_n ?_
      | refine bs_i (fun q => ?_) (fun q => ?_)
      | (refine ckVEJ (k := 5) rfl rfl rfl (fun S0 tk h => sortV (S.length + 5) (pre f L n c).toArray.size (pre f L n c).toArray rfl (by rw [List.size_toArray]; omega) S0 tk h) (SubL.refl _) ?_; rintro r d' ⟨rfl, hs⟩; skip)
      | refine eqk rfl ?_
      | refine ffin _ rfl rfl hS (Sub.refl _) rfl ⟨?_, rfl, rfl⟩)
    have hsl := Sorts.list hs
    rw [List.toList_toArray] at hsl
    have hUe : d'.toList = U := rising_ext (rising_of hsl.2 (hsl.1.nodup_iff.2 hnd)) hr fun k => by rw [hsl.1.mem_iff, hm]
    have e : (pre f L n c).toArray.size = (rowsV kD d'.toList).length := by rw [rowsV_len, Array.length_toList, hs.1.1]
    conv => whnf
    show FFin _ _ _ _ _ _ _ (.vec (S.length + 5) (pre f L n c).toArray.size 1) _
    rw [e]
    exact ffinV (d' := .top) (k := 5) rfl rfl hS rfl (scLL_rows kE _ _ _) ⟨by rw [hUe]; rfl, rfl, rfl⟩
  · have hn : f c = none := by
      cases hf : f c with
      | none => rfl
      | some a => simp_all
    rw [hU.no hn]; rfl
theorem under_nil (c : Int) : Pure 21 [.nilp, .int .i64 c] (.sl []) := by
  intro S tk
  refine ACalls.fgo c21 rfl fun hS => ?_
  repeat' first | with_reducible refine fzD_ite (fun q => ?_) (fun q => ?_) | ((try conv => whnf); first
    | refine bs_d (fun q => ?_) (fun q => ?_)
    | refine bs_n ?_
    | refine bs_i (fun q => ?_) (fun q => ?_)
    | refine ck (by first | rfl | simp) rfl (get_nil _) ?_
    | refine cq (get_nil _) ?_
    | refine ffin (.sl []) rfl rfl hS Sub.nilE rfl ⟨?_, rfl, rfl⟩
    | refine eqk rfl ?_
    | refine ffin _ rfl rfl hS (Sub.refl _) rfl ⟨?_, rfl, rfl⟩)
  all_goals rfl
theorem under_zero (h : S[cid]? = some (.arr [.nilmap])) (c : Int) : ACalls E0 21 [.po cid 0, .int .i64 c] S tk (fun r S' tk' => r = .sl [] ∧ S' = S ∧ tk' = tk) := by
  refine ACalls.fgo c21 rfl fun hS => ?_
  repeat' first | with_reducible refine fzD_ite (fun q => ?_) (fun q => ?_) | ((try conv => whnf); first
    | refine bs_d (fun q => ?_) (fun q => ?_)
    | refine bs_n ?_
    | refine bs_i (fun q => ?_) (fun q => ?_)
    | refine ckA rfl rfl (get_zero (at_old h) c) ?_
    | refine ffin (.sl []) rfl rfl hS Sub.nilE rfl ⟨?_, rfl, rfl⟩
    | refine eqk rfl ?_
    | refine ffin _ rfl rfl hS (Sub.refl _) rfl ⟨?_, rfl, rfl⟩)
  all_goals rfl
theorem leaf_at (h : ChR cid mid S f l clk) (hN : l.length < 1000000) (hL : keysOf f L) (hLl : L.length < 1000000) (c : Int) {U : List Int} (hU : UnderOf f L c U) :
    ACalls E0 24 [.po cid 0, .int .i64 c] S tk (fun r S' tk' => r = .bool (decide (U.length = 1)) ∧ S' = S ∧ tk' = tk) := by
  have hlen := i64s_len U
  refine ACalls.fgo c24 rfl fun hS => ?_
  repeat' first | with_reducible refine fzD_ite (fun q => ?_) (fun q => ?_) | ((try conv => whnf); first
    | refine bs_d (fun q => ?_) (fun q => ?_)
    | refine bs_n ?_
    | refine bs_i (fun q => ?_) (fun q => ?_)
    | refine ckA rfl rfl (by rw [List.append_nil, List.append_nil]; exact under_at h hN hL hLl c hU) ?_
    | refine eqk rfl ?_
    | refine ffin _ rfl rfl hS (Sub.refl _) rfl ⟨?_, rfl, rfl⟩)
  all_goals simp only [tupD, D.bool.injEq]
  all_goals symm
  all_goals first
    | exact decide_eq_true (by omega)
    | exact decide_eq_false (by omega)
    | trace_state
theorem leaf_nil (c : Int) : Pure 24 [.nilp, .int .i64 c] (.bool false) := by
  intro S tk
  refine ACalls.fgo c24 rfl fun hS => ?_
  repeat' first | with_reducible refine fzD_ite (fun q => ?_) (fun q => ?_) | ((try conv => whnf); first
    | refine bs_d (fun q => ?_) (fun q => ?_)
    | refine bs_n ?_
    | refine bs_i (fun q => ?_) (fun q => ?_)
    | refine ck (by first | rfl | simp) rfl (under_nil _) ?_
    | refine cq (under_nil _) ?_
    | refine eqk rfl ?_
    | refine ffin _ rfl rfl hS (Sub.refl _) rfl ⟨?_, rfl, rfl⟩)
  all_goals rfl
theorem leaf_zero (h : S[cid]? = some (.arr [.nilmap])) (c : Int) : ACalls E0 24 [.po cid 0, .int .i64 c] S tk (fun r S' tk' => r = .bool false ∧ S' = S ∧ tk' = tk) := by
  refine ACalls.fgo c24 rfl fun hS => ?_
  repeat' first | with_reducible refine fzD_ite (fun q => ?_) (fun q => ?_) | ((try conv => whnf); first
    | refine bs_d (fun q => ?_) (fun q => ?_)
    | refine bs_n ?_
    | refine bs_i (fun q => ?_) (fun q => ?_)
    | refine ckA rfl rfl (under_zero (at_old h) c) ?_
    | refine eqk rfl ?_
    | refine ffin _ rfl rfl hS (Sub.refl _) rfl ⟨?_, rfl, rfl⟩)
  all_goals rfl
end
end Go.KL.Ythaoejicodhgaaa

/- charts: adding and shutting -/
set_option linter.unusedVariables false
set_option linter.unusedSimpArgs false
set_option linter.unusedSectionVars false
set_option maxRecDepth 4000
namespace Go.KL.Ythaoejicodhgaaa
open Go Go.KL Go.RowKit Go.Proofs Go.Sort

theorem c16 : cFun E0.P 16 = some ⟨72, [(4, none)], .seq (.rg [⟨some 3, none, .box (.t 1) 27⟩, ⟨some 4, none, .mv (.k (.int .i64 0))⟩]) (.seq (.block 0 (.seq (.rg [⟨some 10, none, .mv (.t 0)⟩, ⟨some 11, none, .call 55 [.t 10]⟩, ⟨some 9, none, .mv (.t 11)⟩]) (.cond (.t 9) (.seq (.rg [⟨some 4, none, .mv (.k (.int .i64 1))⟩]) .ret) (.seq (.rg [⟨some 13, none, .ld 5 true (.t 3)⟩, ⟨some 14, none, .call 56 [.t 13]⟩, ⟨some 15, none, .un .not (.t 14)⟩, ⟨some 12, none, .mv (.t 15)⟩]) (.cond (.t 12) (.seq (.rg [⟨some 4, none, .mv (.k (.int .i64 2))⟩]) .ret) .skip))))) (.seq (.seq (.rd [(⟨some 17, none, .mv (.t 0)⟩, none), (⟨some 18, none, .nilck (.t 17)⟩, none), (⟨some 19, none, .fa 0 (.t 18)⟩, none), (⟨some 20, none, .ld 1 false (.t 19)⟩, none), (⟨some 21, none, .fa 0 (.t 3)⟩, none), (⟨some 22, none, .ld 1 false (.t 21)⟩, none), (⟨some 23, none, .mget (KT.lf (KLf.i .i64)) (.agg [.int .i64 0, .int .i64 0, .int .u8 0, .str ⟨#[]⟩, .bool false]) true (.t 20) (.t 22)⟩, none), (⟨some 16, none, .mv (.t 23)⟩, none), (⟨some 24, none, .ext 0 (.t 16)⟩, none), (⟨some 25, none, .ext 1 (.t 16)⟩, none), (⟨some 5, none, .alloc [.int .i64 0, .int .i64 0, .int .u8 0, .str ⟨#[]⟩, .bool false] 27⟩, some [⟨some 20, none, .ld 1 false (.t 19)⟩, ⟨some 22, none, .ld 1 false (.t 21)⟩, ⟨some 23, none, .mget (KT.lf (KLf.i .i64)) (.agg [.int .i64 0, .int .i64 0, .int .u8 0, .str ⟨#[]⟩, .bool false]) true (.t 20) (.t 22)⟩]), (⟨none, none, .st 5 (.t 5) (.t 24)⟩, some []), (⟨some 6, none, .mv (.t 25)⟩, none)]) (.seq (.rg [⟨some 26, none, .mv (.t 6)⟩]) (.cond (.t 26) (.seq (.rg [⟨some 4, none, .mv (.k (.int .i64 8))⟩]) .ret) .skip))) (.seq (.rd [(⟨some 28, none, .mv (.t 0)⟩, none), (⟨some 29, none, .nilck (.t 28)⟩, none), (⟨some 30, none, .fa 0 (.t 29)⟩, none), (⟨some 31, none, .ld 1 false (.t 30)⟩, none), (⟨some 32, none, .fa 1 (.t 3)⟩, none), (⟨some 33, none, .ld 1 false (.t 32)⟩, none), (⟨some 34, none, .mget (KT.lf (KLf.i .i64)) (.agg [.int .i64 0, .int .i64 0, .int .u8 0, .str ⟨#[]⟩, .bool false]) true (.t 31) (.t 33)⟩, none), (⟨some 27, none, .mv (.t 34)⟩, none), (⟨some 35, none, .ext 0 (.t 27)⟩, none), (⟨some 36, none, .ext 1 (.t 27)⟩, none), (⟨some 7, none, .alloc [.int .i64 0, .int .i64 0, .int .u8 0, .str ⟨#[]⟩, .bool false] 27⟩, some [⟨some 31, none, .ld 1 false (.t 30)⟩, ⟨some 33, none, .ld 1 false (.t 32)⟩, ⟨some 34, none, .mget (KT.lf (KLf.i .i64)) (.agg [.int .i64 0, .int .i64 0, .int .u8 0, .str ⟨#[]⟩, .bool false]) true (.t 31) (.t 33)⟩]), (⟨none, none, .st 5 (.t 7) (.t 35)⟩, some []), (⟨some 8, none, .mv (.t 36)⟩, none)]) (.seq (.block 1 (.seq (.rg [⟨some 38, none, .fa 1 (.t 3)⟩, ⟨some 39, none, .ld 1 false (.t 38)⟩, ⟨some 40, none, .bin .neq .leaf (.t 39) (.k (.int .i64 0))⟩, ⟨some 41, none, .mv (.t 40)⟩, ⟨some 42, some (41, true), .mv (.t 8)⟩, ⟨some 43, some (41, true), .un .not (.t 42)⟩, ⟨some 44, none, .pick (.t 41) (.t 43) (.k (.bool false))⟩, ⟨some 37, none, .mv (.t 44)⟩]) (.cond (.t 37) (.seq (.rg [⟨some 4, none, .mv (.k (.int .i64 7))⟩]) .ret) (.seq (.rg [⟨some 46, none, .mv (.t 8)⟩, ⟨some 47, none, .mv (.t 46)⟩, ⟨some 48, some (47, true), .fa 4 (.t 7)⟩, ⟨some 49, some (47, true), .ld 1 false (.t 48)⟩, ⟨some 50, some (47, true), .mv (.t 49)⟩, ⟨some 51, some (50, false), .fa 2 (.t 7)⟩, ⟨some 52, some (50, false), .ld 1 false (.t 51)⟩, ⟨some 53, some (50, false), .fa 2 (.t 3)⟩, ⟨some 54, some (50, false), .ld 1 false (.t 53)⟩, ⟨some 55, some (50, false), .bin .neq .leaf (.t 52) (.t 54)⟩, ⟨some 56, some (47, true), .pick (.t 50) (.k (.bool true)) (.t 55)⟩, ⟨some 57, some (47, true), .mv (.t 56)⟩, ⟨some 58, some (57, false), .mv (.t 0)⟩, ⟨some 59, some (57, false), .fa 1 (.t 3)⟩, ⟨some 60, some (57, false), .ld 1 false (.t 59)⟩, ⟨some 61, some (57, false), .call 57 [.t 58, .t 60]⟩, ⟨some 62, some (57, false), .bin .geq .leaf (.t 61) (.k (.int .i64 8))⟩, ⟨some 63, some (47, true), .pick (.t 57) (.k (.bool true)) (.t 62)⟩, ⟨some 64, none, .pick (.t 47) (.t 63) (.k (.bool false))⟩, ⟨some 45, none, .mv (.t 64)⟩]) (.cond (.t 45) (.seq (.rg [⟨some 4, none, .mv (.k (.int .i64 9))⟩]) .ret) .skip))))) (.seq (.rd [(⟨some 65, none, .mv (.t 0)⟩, none), (⟨some 66, none, .nilck (.t 65)⟩, none), (⟨some 67, none, .fa 0 (.t 66)⟩, none), (⟨some 68, none, .ld 1 false (.t 67)⟩, none), (⟨some 69, none, .fa 0 (.t 3)⟩, none), (⟨some 70, none, .ld 1 false (.t 69)⟩, none), (⟨some 71, none, .ld 5 true (.t 3)⟩, none), (⟨none, none, .mset (KT.lf (KLf.i .i64)) (.t 68) (.t 70) (.t 71)⟩, some [])]) (.seq (.rg [⟨some 4, none, .mv (.k (.int .i64 0))⟩]) .ret))))))⟩ := by kernel_rfl
theorem c14 : cFun E0.P 14 = some ⟨45, [(4, none)], .seq (.rg [⟨some 4, none, .mv (.k (.int .i64 0))⟩]) (.seq (.rg [⟨some 10, none, .mv (.t 0)⟩, ⟨some 11, none, .mv (.t 1)⟩, ⟨some 12, none, .call 22 [.t 10, .t 11]⟩, ⟨some 9, none, .mv (.t 12)⟩, ⟨some 13, none, .ext 0 (.t 9)⟩, ⟨some 14, none, .ext 1 (.t 9)⟩, ⟨some 5, none, .alloc [.int .i64 0, .int .i64 0, .int .u8 0, .str ⟨#[]⟩, .bool false] 27⟩, ⟨none, none, .st 5 (.t 5) (.t 13)⟩, ⟨some 6, none, .mv (.t 14)⟩]) (.seq (.seq (.rg [⟨some 15, none, .mv (.t 6)⟩, ⟨some 16, none, .bin .neq .leaf (.t 15) (.k (.int .i64 0))⟩]) (.cond (.t 16) (.seq (.rg [⟨some 17, none, .mv (.t 6)⟩, ⟨some 4, none, .mv (.t 17)⟩]) .ret) .skip)) (.seq (.seq (.rg [⟨some 18, none, .mv (.t 0)⟩, ⟨some 19, none, .mv (.t 1)⟩, ⟨some 20, none, .call 21 [.t 18, .t 19]⟩, ⟨some 21, none, .len 1 (.t 20)⟩, ⟨some 22, none, .mv (.k (.int .i64 0))⟩]) (.block 0 (.loop (.seq (.rg [⟨some 23, none, .bin .lss .leaf (.t 22) (.t 21)⟩]) (.seq (.cond (.t 23) .skip (.exit 0)) (.seq (.block 1 (.seq (.rg [⟨some 24, none, .ia 1 (.t 20) (.t 22)⟩, ⟨some 25, none, .ld 1 false (.t 24)⟩, ⟨some 8, none, .mv (.t 25)⟩]) (.seq (.rg [⟨some 26, none, .mv (.t 8)⟩, ⟨some 27, none, .mv (.t 1)⟩, ⟨some 28, none, .bin .eql .leaf (.t 26) (.t 27)⟩, ⟨some 29, none, .mv (.t 0)⟩, ⟨some 30, none, .nilck (.t 29)⟩, ⟨some 31, none, .fa 0 (.t 30)⟩, ⟨some 32, none, .ld 1 false (.t 31)⟩, ⟨some 33, none, .mv (.t 8)⟩, ⟨some 34, none, .mget (KT.lf (KLf.i .i64)) (.agg [.int .i64 0, .int .i64 0, .int .u8 0, .str ⟨#[]⟩, .bool false]) false (.t 32) (.t 33)⟩, ⟨some 35, none, .fd 4 1 false (.t 34)⟩, ⟨some 36, none, .bin .eql .leafB (.t 28) (.t 35)⟩]) (.cond (.t 36) (.seq (.rg [⟨some 4, none, .mv (.k (.int .i64 9))⟩]) .ret) .skip)))) (.rg [⟨some 37, none, .bin .add .leaf (.t 22) (.k (.int .i64 1))⟩, ⟨some 22, none, .mv (.t 37)⟩]))))))) (.seq (.rg [⟨some 38, none, .fa 4 (.t 5)⟩, ⟨none, none, .st 1 (.t 38) (.k (.bool true))⟩]) (.seq (.rd [(⟨some 39, none, .mv (.t 0)⟩, none), (⟨some 40, none, .nilck (.t 39)⟩, none), (⟨some 41, none, .fa 0 (.t 40)⟩, none), (⟨some 42, none, .ld 1 false (.t 41)⟩, none), (⟨some 43, none, .mv (.t 1)⟩, none), (⟨some 44, none, .ld 5 true (.t 5)⟩, none), (⟨none, none, .mset (KT.lf (KLf.i .i64)) (.t 42) (.t 43) (.t 44)⟩, some [])]) (.seq (.rg [⟨some 4, none, .mv (.k (.int .i64 0))⟩]) .ret))))))⟩ := by kernel_rfl

/-- what adding answers; n: how deep the account above is -/
def addE (f : Int → Option Ac) (n : Nat) (a : Ac) : Int :=
  if mayA a then
    if (f a.code).isSome = true then 8
    else if a.up ≠ 0 ∧ (f a.up).isSome = false then 7
    else if (f a.up).isSome = true ∧ (((f a.up).getD noAc).sh = true ∨ ((f a.up).getD noAc).cl ≠ a.cl ∨ 8 ≤ (n : Int)) then 9
    else 0
  else 2
section
variable {f : Int → Option Ac} {n : Nat} {a : Ac}
theorem addE_2 (h : ¬ mayA a) : addE f n a = 2 := if_neg h
theorem addE_8 (h : mayA a) (h1 : (f a.code).isSome = true) : addE f n a = 8 := by rw [addE, if_pos h, if_pos h1]
theorem addE_7 (h : mayA a) (h1 : (f a.code).isSome = false) (h2 : (f a.up).isSome = false) (h3 : ¬ a.up = 0) : addE f n a = 7 := by
  rw [addE, if_pos h, if_neg (by rw [h1]; simp), if_pos ⟨h3, h2⟩]
theorem addE_9 (h : mayA a) (h1 : (f a.code).isSome = false) (h2 : (f a.up).isSome = true) (h3 : ((f a.up).getD noAc).sh = true ∨ ¬ ((f a.up).getD noAc).cl = a.cl ∨ 8 ≤ (n : Int)) : addE f n a = 9 := by
  rw [addE, if_pos h, if_neg (by rw [h1]; simp), if_neg (by rintro ⟨_, hh⟩; rw [h2] at hh; cases hh), if_pos ⟨h2, h3⟩]
theorem addE_0a (h : mayA a) (h1 : (f a.code).isSome = false) (h2 : (f a.up).isSome = false) (h3 : a.up = 0) : addE f n a = 0 := by
  rw [addE, if_pos h, if_neg (by rw [h1]; simp), if_neg (fun hh => hh.1 h3), if_neg (by rintro ⟨hh, _⟩; rw [h2] at hh; cases hh)]
theorem addE_0b (h : mayA a) (h1 : (f a.code).isSome = false) (h2 : (f a.up).isSome = true) (h3 : ((f a.up).getD noAc).sh = false) (h4 : ((f a.up).getD noAc).cl = a.cl) (h5 : ¬ 8 ≤ (n : Int)) : addE f n a = 0 := by
  rw [addE, if_pos h, if_neg (by rw [h1]; simp), if_neg (by rintro ⟨_, hh⟩; rw [h2] at hh; cases hh), if_neg (by rintro ⟨_, hh | hh | hh⟩; rw [h3] at hh; cases hh; exact hh h4; exact h5 hh)]
end
theorem acD_sc (n m : Nat) (a : Ac) : (acD a).sc n m = true := rfl
theorem getE_self : ∀ {l : List Ent}, (l.map (·.1)).Nodup → ∀ e ∈ l, getE l e.1 = some e.2.1
  | [], _, e, h => by simp at h
  | a :: r, hn, e, h => by
    simp only [List.map_cons, List.nodup_cons] at hn
    rcases List.mem_cons.1 h with rfl | h
    · simp [getE]
    · rw [getE, if_neg (fun (he : e.1 = a.1) => hn.1 (he ▸ List.mem_map_of_mem (f := (·.1)) h)), getE_self hn.2 e h]
theorem MapR.scA {l : List Ent} {clk : Nat} {f : Int → Option Ac} (h : MapR acD l clk f) (n m : Nat) : oSc n m (.map ktI (entKv l) clk) = true := by
  simp only [oSc, entKv, List.all_map, List.all_eq_true]
  intro e he
  have h1 := getE_self h.nd e he
  rw [h.get] at h1
  obtain ⟨d, _, hd⟩ := Option.map_eq_some_iff.1 h1
  simp only [Function.comp]
  rw [← hd, acD_sc]
  rfl
section
variable {cid mid clk : Nat} {S J : List O} {tk : Tks} {f : Int → Option Ac} {l : List Ent} {L : List Int}
variable {fr : Fr} {n0 m0 : Nat} {T TK : Tks}
def setC' (mid : Nat) (l : List Ent) (clk : Nat) (k : Int) (a : Ac) (S : List O) : List O := S.set mid (.map ktI (entKv (setE l clk k (acD a))) (clkE l clk k))
theorem gk_msA {x k v : Opd} {key : Int} {a : Ac} {K : FD → List O → List O → Tks → Tks → Prop} (h : ChR cid mid S f l clk) (hn : S.length = n0) (hm : T.length = m0) (hx : fev E0 fr x = .d (.map mid)) (hk : (fev E0 fr k).to n0 = kD key) (hv : (fev E0 fr v).to n0 = acD a)
    (hK : K (.d .top) (setC' mid l clk key a S) J T TK) : GK E0 n0 m0 (.mset ktI x k v) fr S J T TK K := by
  refine gk_mset_old hn hm hx h.m (by rw [hk]; rfl) ?_
  rw [hk, hv, mset_entKv, mclk_entKv]
  exact hK
theorem setC'_osc {n m : Nat} {k : Int} {a : Ac} (h : ChR cid mid S f l clk) (hO : OSc n m S) : OSc n m (setC' mid l clk k a S) := hO.set (oSc_osc (MapR.scA (h.r.set k a) n m))
def addS (mid : Nat) (l : List Ent) (clk : Nat) (f : Int → Option Ac) (n : Nat) (a : Ac) (S : List O) : List O := if addE f n a = 0 then setC' mid l clk a.code a S else S
set_option maxHeartbeats 1000000 in
theorem add_at (h : ChR cid mid S f l clk) (a : Ac) (n : Nat) (hn : n < 1000000) (hd : (f a.up).isSome = true → climb f n a.up = 0 ∧ ∀ i, i < n → climb f i a.up ≠ 0) :
    ACalls E0 16 [.po cid 0, acD a] S tk (fun r S' tk' => r = .int .i64 (addE f n a) ∧ S' = addS mid l clk f n a S ∧ tk' = tk) := by
  refine ACalls.fgo c16 rfl fun hS => ?_
  repeat' first | with_reducible refine fzD_ite (fun q => ?_) (fun q => ?_) | ((try conv => whnf); first
    | refine bs_d (fun q => ?_) (fun q => ?_)
    | refine bs_n ?_
    | refine bs_i (fun q => ?_) (fun q => ?_)
    | refine ck (by first | rfl | simp) rfl (may a) ?_
    | refine cq (may a) ?_
    | refine ckA rfl rfl (none_at h.app) ?_
    | refine pK_i (ldO_old h.c rfl) ?_
    | refine pK_i (mgB h _) ?_
    | refine ckA rfl rfl (depth_at h.app a.up n (by omega) (hd (by assumption)).1 (hd (by assumption)).2) ?_
    | refine gk_msA (key := a.code) (a := a) h rfl rfl rfl rfl rfl ?_
    | refine ffin _ rfl rfl hS (Sub.refl _) rfl ⟨?_, ?_, rfl⟩
    | refine ffin _ (by simp [setC']) rfl (setC'_osc h hS) (Sub.refl _) rfl ⟨?_, ?_, rfl⟩
    | refine eqk rfl ?_
    | refine ffin _ rfl rfl hS (Sub.refl _) rfl ⟨?_, rfl, rfl⟩)
  all_goals first
    | exact congrArg (D.int .i64) (Eq.symm (addE_2 (by assumption)))
    | exact (if_neg (show ¬ addE f n a = 0 by rw [addE_2 (by assumption)]; decide)).symm
    | exact (if_pos (show addE f n a = 0 from (addE_2 (by assumption)))).symm
    | exact congrArg (D.int .i64) (Eq.symm (addE_8 (by assumption) (by assumption)))
    | exact (if_neg (show ¬ addE f n a = 0 by rw [addE_8 (by assumption) (by assumption)]; decide)).symm
    | exact (if_pos (show addE f n a = 0 from (addE_8 (by assumption) (by assumption)))).symm
    | exact congrArg (D.int .i64) (Eq.symm (addE_7 (by assumption) (by assumption) (by assumption) (by assumption)))
    | exact (if_neg (show ¬ addE f n a = 0 by rw [addE_7 (by assumption) (by assumption) (by assumption) (by assumption)]; decide)).symm
    | exact (if_pos (show addE f n a = 0 from (addE_7 (by assumption) (by assumption) (by assumption) (by assumption)))).symm
    | exact congrArg (D.int .i64) (Eq.symm (addE_9 (by assumption) (by assumption) (by assumption) (.inl (by assumption))))
    | exact (if_neg (show ¬ addE f n a = 0 by rw [addE_9 (by assumption) (by assumption) (by assumption) (.inl (by assumption))]; decide)).symm
    | exact (if_pos (show addE f n a = 0 from (addE_9 (by assumption) (by assumption) (by assumption) (.inl (by assumption))))).symm
    | exact congrArg (D.int .i64) (Eq.symm (addE_9 (by assumption) (by assumption) (by assumption) (.inr (.inl (by assumption)))))
    | exact (if_neg (show ¬ addE f n a = 0 by rw [addE_9 (by assumption) (by assumption) (by assumption) (.inr (.inl (by assumption)))]; decide)).symm
    | exact (if_pos (show addE f n a = 0 from (addE_9 (by assumption) (by assumption) (by assumption) (.inr (.inl (by assumption)))))).symm
    | exact congrArg (D.int .i64) (Eq.symm (addE_9 (by assumption) (by assumption) (by assumption) (.inr (.inr (by assumption)))))
    | exact (if_neg (show ¬ addE f n a = 0 by rw [addE_9 (by assumption) (by assumption) (by assumption) (.inr (.inr (by assumption)))]; decide)).symm
    | exact (if_pos (show addE f n a = 0 from (addE_9 (by assumption) (by assumption) (by assumption) (.inr (.inr (by assumption)))))).symm
    | exact congrArg (D.int .i64) (Eq.symm (addE_0a (by assumption) (by assumption) (by assumption) (by assumption)))
    | exact (if_neg (show ¬ addE f n a = 0 by rw [addE_0a (by assumption) (by assumption) (by assumption) (by assumption)]; decide)).symm
    | exact (if_pos (show addE f n a = 0 from (addE_0a (by assumption) (by assumption) (by assumption) (by assumption)))).symm
    | exact congrArg (D.int .i64) (Eq.symm (addE_0b (by assumption) (by assumption) (by assumption) (by assumption) (by assumption) (by assumption)))
    | exact (if_neg (show ¬ addE f n a = 0 by rw [addE_0b (by assumption) (by assumption) (by assumption) (by assumption) (by assumption) (by assumption)]; decide)).symm
    | exact (if_pos (show addE f n a = 0 from (addE_0b (by assumption) (by assumption) (by assumption) (by assumption) (by assumption) (by assumption)))).symm
theorem add_nil (a : Ac) : Pure 16 [.nilp, acD a] (.int .i64 1) := by
  intro S tk
  refine ACalls.fgo c16 rfl fun hS => ?_
  repeat' first | with_reducible refine fzD_ite (fun q => ?_) (fun q => ?_) | ((try conv => whnf); first
    | refine bs_d (fun q => ?_) (fun q => ?_)
    | refine bs_n ?_
    | refine bs_i (fun q => ?_) (fun q => ?_)
    | refine ck (by first | rfl | simp) rfl (none_nil) ?_
    | refine cq (none_nil) ?_
    | refine eqk rfl ?_
    | refine ffin _ rfl rfl hS (Sub.refl _) rfl ⟨?_, rfl, rfl⟩)
  all_goals rfl
theorem add_zero (h : S[cid]? = some (.arr [.nilmap])) (a : Ac) : ACalls E0 16 [.po cid 0, acD a] S tk (fun r S' tk' => r = .int .i64 1 ∧ S' = S ∧ tk' = tk) := by
  refine ACalls.fgo c16 rfl fun hS => ?_
  repeat' first | with_reducible refine fzD_ite (fun q => ?_) (fun q => ?_) | ((try conv => whnf); first
    | refine bs_d (fun q => ?_) (fun q => ?_)
    | refine bs_n ?_
    | refine bs_i (fun q => ?_) (fun q => ?_)
    | refine ckA rfl rfl (none_zero (at_old h)) ?_
    | refine eqk rfl ?_
    | refine ffin _ rfl rfl hS (Sub.refl _) rfl ⟨?_, rfl, rfl⟩)
  all_goals rfl

/-- what shutting answers -/
def badK (f : Int → Option Ac) (c k : Int) : Bool := decide (k = c) == ((f k).getD noAc).sh
def shutE (f : Int → Option Ac) (U : List Int) (c : Int) : Int := if (f c).isSome = true then (if U.any (badK f c) = true then 9 else 0) else 7
def shutS (mid : Nat) (l : List Ent) (clk : Nat) (f : Int → Option Ac) (U : List Int) (c : Int) (S : List O) : List O := if shutE f U c = 0 then setC' mid l clk c { (f c).getD noAc with sh := true } S else S
set_option maxHeartbeats 1000000 in
theorem shut_at (h : ChR cid mid S f l clk) (hN : l.length < 1000000) (hL : keysOf f L) (hLl : L.length < 1000000) (c : Int) {U : List Int} (hU : UnderOf f L c U) :
    ACalls E0 14 [.po cid 0, .int .i64 c] S tk (fun r S' tk' => r = .int .i64 (shutE f U c) ∧ S' = shutS mid l clk f U c S ∧ tk' = tk) := by
  have hlen := i64s_len U
  refine ACalls.fgo c14 rfl fun hS => ?_
  repeat' first | with_reducible refine fzD_ite (fun q => ?_) (fun q => ?_) | ((try conv => whnf); first
    | refine bs_d (fun q => ?_) (fun q => ?_)
    | refine bs_n ?_
    | refine bs_i (fun q => ?_) (fun q => ?_)
    | refine ckA rfl rfl (get_at h.app c) ?_
    | refine ckA rfl rfl (under_at h.app hN hL hLl c hU) ?_
    | refine ffin _ rfl rfl hS (Sub.refl _) rfl ⟨?_, ?_, rfl⟩
    | refine eqk rfl ?_
    | refine ffin _ rfl rfl hS (Sub.refl _) rfl ⟨?_, rfl, rfl⟩)
  · have hf : (f c).isSome = true := by
      cases hf : (f c).isSome with
      | true => rfl
      | false => simp_all
    have hUl : U.length < 1000000 := by
      obtain ⟨n, _, hp, hnd, hr, hm⟩ := hU.yes (fun hn => by rw [hn] at hf; cases hf)
      rw [((List.perm_ext_iff_of_nodup (hr.imp fun h => by omega) hnd).2 hm).length_eq]; exact hp
    refine floop (α := Nat) rfl rfl hS (fun i => i ≤ U.length ∧ (U.take i).any (badK f c) = false) (fun i => U.length - i) (fun i => [(22, .d (.int .i64 i)), (21, .d (.int .i64 U.length)), (20, .d (.sl (i64s U))), (0, .d (.po cid 0)), (1, .d (.int .i64 c)), (5, .lp 0 0)]) (fun _ => [.arr ((f c).getD noAc).cs]) (fun _ => []) 0 ⟨Nat.zero_le _, by simp⟩ ?_ ?_
    · exact fstep_sub ⟨Sub.refl _, Sub.int (by rw [hlen]), Sub.refl _, Sub.refl _, Sub.refl _, Sub.refl _, trivial⟩
    rintro i ⟨h1, h2⟩
    have iaK : ∀ {i : Nat} {n : Int}, n = i → i < U.length → iaD 1 (.sl (i64s U)) (.int .i64 n) = some (.pe [.int .i64 U[i]!] 0) := fun {i n} h hi => by
      subst h
      exact iaD_i64s (by omega) (by rw [Int.toNat_natCast, List.getElem?_eq_getElem hi, getElem!_pos U i hi])
    have bT : ∀ k, badK f c k = true → k ∈ U → shutE f U c = 9 := fun k hk hm => by rw [shutE, if_pos hf, if_pos (List.any_eq_true.2 ⟨k, hm, hk⟩)]
    have mU : ∀ {i : Nat}, i < U.length → U[i]! ∈ U := fun {i} hi => by rw [getElem!_pos U i hi]; exact List.getElem_mem _
    have b1 : ∀ {i : Nat}, U[i]! = c → ((f U[i]!).getD noAc).sh = true → badK f c U[i]! = true := fun hk hs => by rw [badK, decide_eq_true hk, hs]; rfl
    have b2 : ∀ {i : Nat}, ¬ U[i]! = c → ((f U[i]!).getD noAc).sh = false → badK f c U[i]! = true := fun hk hs => by rw [badK, decide_eq_false hk, hs]; rfl
    have b3 : ∀ {i : Nat}, U[i]! = c → ((f U[i]!).getD noAc).sh = false → badK f c U[i]! = false := fun hk hs => by rw [badK, decide_eq_true hk, hs]; rfl
    have b4 : ∀ {i : Nat}, ¬ U[i]! = c → ((f U[i]!).getD noAc).sh = true → badK f c U[i]! = false := fun hk hs => by rw [badK, decide_eq_false hk, hs]; rfl
    have st : ∀ {i : Nat}, i < U.length → (U.take i).any (badK f c) = false → badK f c U[i]! = false → (U.take (i + 1)).any (badK f c) = false := fun {i} hi h1 h2 => by
      rw [List.take_add_one, List.getElem?_eq_getElem hi, ← getElem!_pos U i hi, List.any_append, h1]
      simp only [Option.toList_some, List.any_cons, List.any_nil, h2, Bool.or_self]
    repeat' first | with_reducible refine fzD_ite (fun q => ?_) (fun q => ?_) | ((try conv => whnf); first
      | refine bs_d (fun q => ?_) (fun q => ?_) <;> (try simp (disch := ((try unfold I64); omega)) only [wi64_id, td] at q)
      | refine bs_n ?_
      | refine bs_i (fun q => ?_) (fun q => ?_)
      | refine pK_i (iaK (i := i) (by first | rfl | omega | (refine Int.sub_eq_zero.mp ?_; simp (disch := ((try unfold I64); omega)) only [wi64_id, td]; omega)) (by omega)) ?_
      | refine pK_i (ldO_old h.c rfl) ?_
      | refine pK_i (mgA h _) ?_
      | refine gk_msA (key := c) (a := { (f c).getD noAc with sh := true }) h rfl rfl rfl rfl rfl ?_
      | refine ffin _ rfl rfl hS (Sub.refl _) rfl ⟨?_, ?_, rfl⟩
      | refine ffin _ (by simp [setC']) rfl (setC'_osc h hS) (Sub.refl _) rfl ⟨?_, ?_, rfl⟩
      | refine eqk rfl ?_
      | refine ffin _ rfl rfl hS (Sub.refl _) rfl ⟨?_, rfl, rfl⟩)
    · exact congrArg (D.int .i64) (bT _ (b1 (by assumption) (by assumption)) (mU (by omega))).symm
    · exact (if_neg (show ¬ shutE f U c = 0 by rw [bT _ (b1 (by assumption) (by assumption)) (mU (by omega))]; decide)).symm
    · conv => whnf
      refine fnext (α := Nat) (i + 1) ⟨by omega, st (by omega) h2 (b3 (by assumption) (by assumption))⟩ (by omega) (fstep_sub ⟨Sub.int (by rw [wi64_id]; omega; unfold I64; omega), Sub.refl _, Sub.refl _, Sub.refl _, Sub.refl _, Sub.refl _, trivial⟩)
    · conv => whnf
      refine fnext (α := Nat) (i + 1) ⟨by omega, st (by omega) h2 (b4 (by assumption) (by assumption))⟩ (by omega) (fstep_sub ⟨Sub.int (by rw [wi64_id]; omega; unfold I64; omega), Sub.refl _, Sub.refl _, Sub.refl _, Sub.refl _, Sub.refl _, trivial⟩)
    · exact congrArg (D.int .i64) (bT _ (b2 (by assumption) (by assumption)) (mU (by omega))).symm
    · exact (if_neg (show ¬ shutE f U c = 0 by rw [bT _ (b2 (by assumption) (by assumption)) (mU (by omega))]; decide)).symm
    all_goals (rw [List.take_of_length_le (by omega)] at h2)
    all_goals (have e0 : shutE f U c = 0 := by rw [shutE, if_pos hf, if_neg (by rw [h2]; simp)])
    · exact congrArg (D.int .i64) e0.symm
    · exact (if_pos e0).symm
  all_goals (have hn : (f c).isSome = false := Bool.eq_false_iff.2 fun h => by simp_all)
  all_goals (have e7 : shutE f U c = 7 := by rw [shutE, if_neg (by rw [hn]; simp)])
  · rw [e7, hn]; rfl
  · exact (if_neg (show ¬ shutE f U c = 0 by rw [e7]; decide)).symm
theorem shut_nil (c : Int) : Pure 14 [.nilp, .int .i64 c] (.int .i64 1) := by
  intro S tk
  refine ACalls.fgo c14 rfl fun hS => ?_
  repeat' first | with_reducible refine fzD_ite (fun q => ?_) (fun q => ?_) | ((try conv => whnf); first
    | refine bs_d (fun q => ?_) (fun q => ?_)
    | refine bs_n ?_
    | refine bs_i (fun q => ?_) (fun q => ?_)
    | refine ck (by first | rfl | simp) rfl (get_nil _) ?_
    | refine cq (get_nil _) ?_
    | refine eqk rfl ?_
    | refine ffin _ rfl rfl hS (Sub.refl _) rfl ⟨?_, rfl, rfl⟩)
  all_goals rfl
theorem shut_zero (h : S[cid]? = some (.arr [.nilmap])) (c : Int) : ACalls E0 14 [.po cid 0, .int .i64 c] S tk (fun r S' tk' => r = .int .i64 1 ∧ S' = S ∧ tk' = tk) := by
  refine ACalls.fgo c14 rfl fun hS => ?_
  repeat' first | with_reducible refine fzD_ite (fun q => ?_) (fun q => ?_) | ((try conv => whnf); first
    | refine bs_d (fun q => ?_) (fun q => ?_)
    | refine bs_n ?_
    | refine bs_i (fun q => ?_) (fun q => ?_)
    | refine ckA rfl rfl (get_zero (at_old h) c) ?_
    | refine eqk rfl ?_
    | refine ffin _ rfl rfl hS (Sub.refl _) rfl ⟨?_, rfl, rfl⟩)
  all_goals rfl
end
end Go.KL.Ythaoejicodhgaaa
