/- journal.Reverse, and the document's -/
import Derived.Test.YtogpeefldehnkaaJd
import Derived.Test.YtogpeefldehnkaaJa
import Derived.Test.YtogpeefldehnkaaJe
set_option linter.unusedVariables false
set_option linter.unusedSimpArgs false
set_option linter.unusedSectionVars false
set_option maxRecDepth 4000
namespace Go.KL.Ytogpeefldehnkaa.J
open Go Go.KL Go.RowKit Go.Proofs Go.KL.Ytogpeefldehnkaa

theorem c58 : cFun E0.P 58 = some ⟨8, [(2, none)], .seq (.rg [⟨some 2, none, .mv (.k .nilsl)⟩]) (.seq (.seq (.rg [⟨some 3, none, .mv (.t 0)⟩, ⟨some 4, none, .bin .eql .slice (.t 3) (.k .nilsl)⟩]) (.cond (.t 4) (.seq (.rg [⟨some 2, none, .mv (.k .nilsl)⟩]) .ret) .skip)) (.seq (.rg [⟨some 5, none, .buildS 0 4 [.int .i64 0, .int .u64 0, .int .u64 0, .int .i64 0] [] 34⟩, ⟨some 6, none, .mv (.t 0)⟩, ⟨some 7, none, .app 22 34 4 32 [.int .i64 0, .int .u64 0, .int .u64 0, .int .i64 0] (.t 5) (.t 6)⟩, ⟨some 2, none, .mv (.t 7)⟩]) .ret))⟩ := by kernel_rfl
theorem c22 : cFun E0.P 22 = some ⟨47, [(4, some (4, true)), (5, none)], .seq (.rg [⟨some 2, none, .box (.t 0) 39⟩, ⟨some 4, none, .alloc [.int .i64 0, .int .u8 0, .int .u64 0, .nilsl] 39⟩, ⟨some 5, none, .mv (.k (.int .i64 0))⟩]) (.seq (.seq (.rg [⟨some 8, none, .ld 4 true (.t 2)⟩, ⟨some 9, none, .call 17 [.t 8]⟩, ⟨some 6, none, .mv (.t 9)⟩]) (.seq (.rg [⟨some 10, none, .mv (.t 6)⟩, ⟨some 11, none, .bin .neq .leaf (.t 10) (.k (.int .i64 0))⟩]) (.cond (.t 11) (.seq (.rg [⟨some 12, none, .build [.int .i64 0, .int .u8 0, .int .u64 0, .nilsl] []⟩, ⟨some 13, none, .mv (.t 6)⟩, ⟨none, none, .st 4 (.t 4) (.t 12)⟩, ⟨some 5, none, .mv (.t 13)⟩]) .ret) .skip))) (.seq (.seq (.rg [⟨some 14, none, .mv (.t 1)⟩, ⟨some 15, none, .bin .lss .leaf (.t 14) (.k (.int .i64 1))⟩, ⟨some 16, none, .mv (.t 15)⟩, ⟨some 17, some (16, false), .mv (.t 1)⟩, ⟨some 18, some (16, false), .bin .gtr .leaf (.t 17) (.k (.int .i64 3652059))⟩, ⟨some 19, none, .pick (.t 16) (.k (.bool true)) (.t 18)⟩]) (.cond (.t 19) (.seq (.rg [⟨some 20, none, .build [.int .i64 0, .int .u8 0, .int .u64 0, .nilsl] []⟩, ⟨none, none, .st 4 (.t 4) (.t 20)⟩, ⟨some 5, none, .mv (.k (.int .i64 2))⟩]) .ret) .skip)) (.seq (.rg [⟨some 21, none, .mv (.t 1)⟩, ⟨some 22, none, .fa 3 (.t 2)⟩, ⟨some 23, none, .ld 1 false (.t 22)⟩, ⟨some 24, none, .call 58 [.t 23]⟩, ⟨some 25, none, .fa 0 (.t 2)⟩, ⟨none, none, .st 1 (.t 25) (.t 21)⟩, ⟨some 26, none, .fa 3 (.t 2)⟩, ⟨none, none, .st 1 (.t 26) (.t 24)⟩]) (.seq (.seq (.rg [⟨some 27, none, .fa 3 (.t 2)⟩, ⟨some 28, none, .ld 1 false (.t 27)⟩, ⟨some 29, none, .len 1 (.t 28)⟩, ⟨some 30, none, .mv (.k (.int .i64 0))⟩]) (.block 0 (.loop (.seq (.rg [⟨some 31, none, .bin .lss .leaf (.t 30) (.t 29)⟩]) (.seq (.cond (.t 31) .skip (.exit 0)) (.seq (.block 1 (.seq (.rg [⟨some 32, none, .mv (.t 30)⟩, ⟨some 7, none, .mv (.t 32)⟩]) (.rd [(⟨some 33, none, .fa 3 (.t 2)⟩, none), (⟨some 34, none, .ld 1 false (.t 33)⟩, none), (⟨some 35, none, .mv (.t 7)⟩, none), (⟨some 36, none, .fa 3 (.t 2)⟩, none), (⟨some 37, none, .ld 1 false (.t 36)⟩, none), (⟨some 38, none, .mv (.t 7)⟩, none), (⟨some 39, none, .ia 4 (.t 37) (.t 38)⟩, none), (⟨some 40, none, .fa 3 (.t 39)⟩, none), (⟨some 41, none, .ld 1 false (.t 40)⟩, none), (⟨some 42, none, .un .neg (.t 41)⟩, none), (⟨some 43, none, .ia 4 (.t 34) (.t 35)⟩, none), (⟨some 44, none, .fa 3 (.t 43)⟩, none), (⟨none, none, .st 1 (.t 44) (.t 42)⟩, some [])]))) (.rg [⟨some 45, none, .bin .add .leaf (.t 30) (.k (.int .i64 1))⟩, ⟨some 30, none, .mv (.t 45)⟩]))))))) (.seq (.rg [⟨some 46, none, .ld 4 true (.t 2)⟩, ⟨none, none, .st 4 (.t 4) (.t 46)⟩, ⟨some 5, none, .mv (.k (.int .i64 0))⟩]) .ret)))))⟩ := by kernel_rfl

def neg (x : Ln) : Ln := { x with amt := -x.amt }
def zeroE : Ent := ⟨0, 0, 0, []⟩
/-- an entry, turned; what is said of it -/
def revE (e : Ent) (day : Int) : Ent := if e.chk = 0 ∧ 1 ≤ day ∧ day ≤ 3652059 then ⟨day, e.kind, e.src, e.L.map neg⟩ else zeroE
def revN (e : Ent) (day : Int) : Int := if e.chk = 0 then if 1 ≤ day ∧ day ≤ 3652059 then 0 else 2 else e.chk
def revS (e : Ent) (day : Int) : D := .tup [(revE e day).d, .int .i64 (revN e day)]
theorem clone_at (L : List Ln) (h0 : L ≠ []) (hl : L.length < 1000000) (S : List O) (tk : Tks) :
    ACalls E0 58 [.sl (lns L)] S tk (fun r S' tk' => r = .vec S.length L.length 4 ∧ S' = S ++ [.vec (lns L) 34 4] ∧ tk' = tk) := by
  have hlen := lns_len L
  have h4 : ∀ s ∈ lns L, s.length = 4 := fun s hs => by obtain ⟨x, _, rfl⟩ := List.mem_map.1 hs; rfl
  refine ACalls.fgo c58 rfl fun hS => ?_
  cases L with
  | nil => exact absurd rfl h0
  | cons a r =>
    repeat' first | with_reducible refine fzD_ite (fun q => ?_) (fun q => ?_) | ((try conv => whnf); first
      | refine bs_d (fun q => ?_) (fun q => ?_)
      | refine bs_n ?_
      | refine bs_i (fun q => ?_) (fun q => ?_)
      | refine gk_app0v (src := lns (a :: r)) rfl rfl (.inr rfl) rfl h4 ⟨by rw [hlen]; simp [maxLen] at hl ⊢; omega, by rw [hlen]; omega⟩ ?_
      | refine ffinJ ⟨?_, rfl, ?_⟩
      | refine eqk rfl ?_
      | refine ffin _ rfl rfl hS (Sub.refl _) rfl ⟨?_, rfl, rfl⟩)
    all_goals first | rfl | (simp only [List.append_nil]) | (rw [← hlen]; rfl)
def negP (L : List Ln) (i : Nat) : List Ln := (L.take i).map neg ++ L.drop i
theorem negP_len (L : List Ln) (i : Nat) : (negP L i).length = L.length := by simp [negP]; omega
theorem negP_at {L : List Ln} {i : Nat} (h : i < L.length) : (negP L i)[i]? = some L[i]! := by
  rw [negP, List.getElem?_append_right (by simp; omega), List.length_map, List.length_take, List.getElem?_drop]
  rw [show i + (i - min i L.length) = i by omega, List.getElem?_eq_getElem h, getElem!_pos L i h]
theorem negP_set {L : List Ln} {i : Nat} (h : i < L.length) : (negP L i).set i (neg L[i]!) = negP L (i + 1) := by
  rw [negP, List.set_append_right _ _ (by simp; omega), List.length_map, List.length_take, show i - min i L.length = 0 by omega, List.drop_eq_getElem_cons h, List.set_cons_zero, negP, take_snA h, List.map_append]
  simp
theorem lns_set (L : List Ln) (i : Nat) (x : Ln) : (lns L).set i x.cs = lns (L.set i x) := by rw [lns, lns, List.map_set]
theorem lns_at {L : List Ln} {i : Nat} {x : Ln} (h : L[i]? = some x) : (lns L)[i]? = some x.cs := by rw [lns, List.getElem?_map, h]; rfl
theorem vfrzE {id : Nat} {es : List (List D)} {a b c y : D} {sz : Nat} : VFrz id es (.tup [.agg [a, b, c, .vec id es.length sz], y]) (.tup [.agg [a, b, c, .sl es], y]) := by
  refine .tup rfl fun j d d' h1 h2 => ?_
  match j with
  | 0 =>
    simp at h1 h2; subst h1; subst h2
    refine .agg rfl fun j d d' h1 h2 => ?_
    match j with
    | 0 => simp at h1 h2; subst h1; subst h2; exact .refl _
    | 1 => simp at h1 h2; subst h1; subst h2; exact .refl _
    | 2 => simp at h1 h2; subst h1; subst h2; exact .refl _
    | 3 => simp at h1 h2; subst h1; subst h2; exact .vec sz
    | j + 4 => simp at h1
  | 1 => simp at h1 h2; subst h1; subst h2; exact .refl _
  | j + 2 => simp at h1
theorem zeroE_sub (y : D) : Sub (.tup [.agg [.int .i64 0, .int .u8 0, .int .u64 0, .nilsl], y]) (.tup [zeroE.d, y]) :=
  Sub.tup (.cons (Sub.agg (.cons (Sub.refl _) (.cons (Sub.refl _) (.cons (Sub.refl _) (.cons (Sub.rd rfl) .nil))))) (.cons (Sub.refl _) .nil))
theorem Reverse (e : Ent) (hR : e.R) (day : Int) : Pure 22 [e.d, .int .i64 day] (revS e day) := by
  intro S tk
  have hc := Check e hR
  by_cases h0 : e.chk = 0
  rotate_left
  · rw [revS, revE, revN, if_neg h0, if_neg (fun h => h0 h.1)]
    refine ACalls.fgo c22 rfl fun hS => ?_
    repeat' first | with_reducible refine fzD_ite (fun q => ?_) (fun q => ?_) | ((try conv => whnf); first
      | refine bs_f (decide_eq_false h0) ?_
      | refine bs_d (fun q => ?_) (fun q => ?_)
      | refine bs_n ?_
      | refine bs_i (fun q => ?_) (fun q => ?_)
      | refine ck (by first | rfl | simp) rfl (hc) ?_
      | refine cq (hc) ?_
      | refine ffin (.tup [zeroE.d, .int .i64 e.chk]) rfl rfl hS (zeroE_sub _) rfl ⟨?_, rfl, rfl⟩
      | refine eqk rfl ?_
      | refine ffin _ rfl rfl hS (Sub.refl _) rfl ⟨?_, rfl, rfl⟩)
    all_goals rfl
  obtain ⟨h1, h2, h3⟩ := Ent.chk_0 h0
  unfold Ent.hd at h1
  rw [h0] at hc
  by_cases hd : 1 ≤ day ∧ day ≤ 3652059
  rotate_left
  · rw [revS, revE, revN, if_pos h0, if_neg hd, if_neg (fun h => hd h.2)]
    refine ACalls.fgo c22 rfl fun hS => ?_
    repeat' first | with_reducible refine fzD_ite (fun q => ?_) (fun q => ?_) | ((try conv => whnf); first
      | refine bs_d (fun q => ?_) (fun q => ?_)
      | refine bs_n ?_
      | refine bs_i (fun q => ?_) (fun q => ?_)
      | refine ck (by first | rfl | simp) rfl (hc) ?_
      | refine cq (hc) ?_
      | refine ffin (.tup [zeroE.d, .int .i64 2]) rfl rfl hS (zeroE_sub _) rfl ⟨?_, rfl, rfl⟩
      | refine eqk rfl ?_
      | refine ffin _ rfl rfl hS (Sub.refl _) rfl ⟨?_, rfl, rfl⟩)
    all_goals first | rfl | (exfalso; omega)
  rw [revS, revE, revN, if_pos h0, if_pos hd, if_pos ⟨h0, hd⟩]
  have hlen := lns_len e.L
  have hne : e.L ≠ [] := fun h => by rw [h] at h1; simp at h1
  refine ACalls.fgo c22 rfl fun hS => ?_
  repeat' first | with_reducible refine fzD_ite (fun q => ?_) (fun q => ?_) | ((try conv => whnf); first
    | refine bs_f (decide_eq_false (by omega)) ?_
    | refine bs_d (fun q => ?_) (fun q => ?_)
    | refine bs_n ?_
    | refine bs_i (fun q => ?_) (fun q => ?_)
    | refine ck (by first | rfl | simp) rfl (hc) ?_
    | refine cq (hc) ?_
    | refine ckN (d := .vec (S.length + 2) e.L.length 4) (Jn := [.vec (lns e.L) 34 4]) rfl rfl (by have := clone_at e.L hne (by omega) (S ++ [.arr [.int .i64 e.day, .int .u8 e.kind, .int .u64 e.src, .sl (lns e.L)], .arr [.int .i64 0, .int .u8 0, .int .u64 0, .nilsl]]) tk; rw [List.append_nil]; rw [List.length_append] at this; exact this) ?_
    | refine eqk rfl ?_
    | refine ffin _ rfl rfl hS (Sub.refl _) rfl ⟨?_, rfl, rfl⟩)
  conv => whnf
  refine floop (α := Nat) rfl rfl hS (fun i => i ≤ e.L.length) (fun i => e.L.length - i) (fun i => [(30, .d (.int .i64 i)), (29, .d (.int .i64 e.L.length)), (2, .lp 0 0), (4, .lp 1 0), (5, .d (.int .i64 0))])
    (fun i => [.arr [.int .i64 day, .int .u8 e.kind, .int .u64 e.src, .vec (S.length + 2) e.L.length 4], .arr [.int .i64 0, .int .u8 0, .int .u64 0, .nilsl], .vec (lns (negP e.L i)) 34 4]) (fun _ => []) 0 (Nat.zero_le _) (fstep_sub ⟨Sub.refl _, Sub.refl _, Sub.refl _, Sub.refl _, Sub.refl _, trivial⟩) ?_
  intro i hi
  have hnl : (lns (negP e.L i)).length = e.L.length := by rw [lns_len, negP_len]
  by_cases hlt : i < e.L.length
  · have hat := lns_at (negP_at hlt)
    have hmy := h2 _ (mem_at hlt)
    have hw : IntKind.wrap .i64 (0 - e.L[i]!.amt) = -e.L[i]!.amt := by rw [Int.zero_sub]; exact wi64_id (by unfold I64; unfold Ln.may at hmy; omega)
    repeat' first | with_reducible refine fzD_ite (fun q => ?_) (fun q => ?_) | ((try conv => whnf); first
      | refine bs_t (decide_eq_true (by omega)) ?_
      | refine bs_d (fun q => ?_) (fun q => ?_)
      | refine bs_n ?_
      | refine bs_i (fun q => ?_) (fun q => ?_)
      | refine pK_i (iaD_vecN (k := i) rfl hlt) ?_
      | refine pK_i (ldV_own rfl rfl hnl hat rfl) ?_
      | refine gk_stpv_own (k := 2) (row := (e.L[i]!).cs) (d := .int .i64 (IntKind.wrap .i64 (0 - e.L[i]!.amt))) rfl rfl rfl rfl hat rfl ⟨rfl, rfl, rfl, hnl, by simp [Ln.cs]⟩ ?_
      | refine eqk rfl ?_
      | refine ffin _ rfl rfl hS (Sub.refl _) rfl ⟨?_, rfl, rfl⟩)
    conv => whnf
    refine fnext (α := Nat) (i + 1) (by omega) (by omega) (fstep_J ?_ ⟨Sub.int (by first | rfl | omega | (refine Int.sub_eq_zero.mp ?_; simp (disch := ((try unfold I64); omega)) only [wi64_id, td]; omega)), Sub.refl _, Sub.refl _, Sub.refl _, Sub.refl _, trivial⟩)
    rw [hw]
    have : (lns (negP e.L i)).set i (neg e.L[i]!).cs = lns (negP e.L (i + 1)) := by rw [lns_set, negP_set hlt]
    rw [← this]; rfl
  · obtain rfl : i = e.L.length := by omega
    have he : negP e.L e.L.length = e.L.map neg := by simp [negP]
    have hl2 : e.L.length = (lns (e.L.map neg)).length := by rw [lns_len, List.length_map]
    rw [he]
    repeat' first | with_reducible refine fzD_ite (fun q => ?_) (fun q => ?_) | ((try conv => whnf); first
      | refine bs_f (decide_eq_false (by omega)) ?_
      | refine bs_d (fun q => ?_) (fun q => ?_)
      | refine bs_n ?_
      | refine bs_i (fun q => ?_) (fun q => ?_)
      | (show FFin _ _ _ _ _ _ _ (.tup [.agg [.int .i64 day, .int .u8 e.kind, .int .u64 e.src, .vec (S.length + 2) e.L.length 4], .int .i64 0]) _; rw [hl2]; refine ffinVP (k := 2) (es := lns (e.L.map neg)) rfl rfl hS rfl vfrzE (by simp [D.sc, scL, scLL_lns]) ⟨?_, rfl, rfl⟩)
      | refine eqk rfl ?_
      | refine ffin _ rfl rfl hS (Sub.refl _) rfl ⟨?_, rfl, rfl⟩)
    all_goals rfl
end Go.KL.Ytogpeefldehnkaa.J

/- the document's journal: sums, entries that may be, totals -/
set_option linter.unusedVariables false
set_option linter.unusedSimpArgs false
set_option linter.unusedSectionVars false
set_option maxRecDepth 4000
namespace Go.KL.Ytogpeefldehnkaa.J
open Go Go.KL Go.RowKit Go.Proofs Go.KL.Ytogpeefldehnkaa

theorem c47 : cFun E0.P 47 = some ⟨26, [(2, none)], .seq (.rg [⟨some 1, none, .box (.t 0) 34⟩, ⟨some 2, none, .mv (.k (.bool false))⟩]) (.seq (.rg [⟨some 3, none, .fa 0 (.t 1)⟩, ⟨some 4, none, .ld 1 false (.t 3)⟩, ⟨some 5, none, .bin .geq .leaf (.t 4) (.k (.int .i64 1))⟩, ⟨some 6, none, .mv (.t 5)⟩, ⟨some 7, some (6, true), .fa 0 (.t 1)⟩, ⟨some 8, some (6, true), .ld 1 false (.t 7)⟩, ⟨some 9, some (6, true), .bin .leq .leaf (.t 8) (.k (.int .i64 9999))⟩, ⟨some 10, none, .pick (.t 6) (.t 9) (.k (.bool false))⟩, ⟨some 11, none, .mv (.t 10)⟩, ⟨some 12, some (11, true), .fa 3 (.t 1)⟩, ⟨some 13, some (11, true), .ld 1 false (.t 12)⟩, ⟨some 14, some (11, true), .bin .neq .leaf (.t 13) (.k (.int .i64 0))⟩, ⟨some 15, none, .pick (.t 11) (.t 14) (.k (.bool false))⟩, ⟨some 16, none, .mv (.t 15)⟩, ⟨some 17, some (16, true), .fa 3 (.t 1)⟩, ⟨some 18, some (16, true), .ld 1 false (.t 17)⟩, ⟨some 19, some (16, true), .bin .geq .leaf (.t 18) (.k (.int .i64 (-4611686018427387904)))⟩, ⟨some 20, none, .pick (.t 16) (.t 19) (.k (.bool false))⟩, ⟨some 21, none, .mv (.t 20)⟩, ⟨some 22, some (21, true), .fa 3 (.t 1)⟩, ⟨some 23, some (21, true), .ld 1 false (.t 22)⟩, ⟨some 24, some (21, true), .bin .leq .leaf (.t 23) (.k (.int .i64 4611686018427387904))⟩, ⟨some 25, none, .pick (.t 21) (.t 24) (.k (.bool false))⟩, ⟨some 2, none, .mv (.t 25)⟩]) .ret)⟩ := by kernel_rfl
theorem c48 : cFun E0.P 48 = some ⟨24, [(4, none)], .seq (.rg [⟨some 2, none, .box (.t 0) 34⟩, ⟨some 3, none, .box (.t 1) 34⟩, ⟨some 4, none, .mv (.k (.bool false))⟩]) (.seq (.rg [⟨some 5, none, .fa 0 (.t 2)⟩, ⟨some 6, none, .ld 1 false (.t 5)⟩, ⟨some 7, none, .fa 0 (.t 3)⟩, ⟨some 8, none, .ld 1 false (.t 7)⟩, ⟨some 9, none, .bin .eql .leaf (.t 6) (.t 8)⟩, ⟨some 10, none, .mv (.t 9)⟩, ⟨some 11, some (10, true), .fa 1 (.t 2)⟩, ⟨some 12, some (10, true), .ld 1 false (.t 11)⟩, ⟨some 13, some (10, true), .fa 1 (.t 3)⟩, ⟨some 14, some (10, true), .ld 1 false (.t 13)⟩, ⟨some 15, some (10, true), .bin .eql .leaf (.t 12) (.t 14)⟩, ⟨some 16, none, .pick (.t 10) (.t 15) (.k (.bool false))⟩, ⟨some 17, none, .mv (.t 16)⟩, ⟨some 18, some (17, true), .fa 2 (.t 2)⟩, ⟨some 19, some (17, true), .ld 1 false (.t 18)⟩, ⟨some 20, some (17, true), .fa 2 (.t 3)⟩, ⟨some 21, some (17, true), .ld 1 false (.t 20)⟩, ⟨some 22, some (17, true), .bin .eql .leaf (.t 19) (.t 21)⟩, ⟨some 23, none, .pick (.t 17) (.t 22) (.k (.bool false))⟩, ⟨some 4, none, .mv (.t 23)⟩]) .ret)⟩ := by kernel_rfl
theorem c14 : cFun E0.P 14 = some ⟨30, [(4, none)], .seq (.rg [⟨some 2, none, .box (.t 0) 34⟩, ⟨some 3, none, .box (.t 1) 34⟩, ⟨some 4, none, .mv (.k (.bool false))⟩]) (.seq (.seq (.rg [⟨some 5, none, .fa 0 (.t 2)⟩, ⟨some 6, none, .ld 1 false (.t 5)⟩, ⟨some 7, none, .fa 0 (.t 3)⟩, ⟨some 8, none, .ld 1 false (.t 7)⟩, ⟨some 9, none, .bin .neq .leaf (.t 6) (.t 8)⟩]) (.cond (.t 9) (.seq (.rg [⟨some 10, none, .fa 0 (.t 2)⟩, ⟨some 11, none, .ld 1 false (.t 10)⟩, ⟨some 12, none, .fa 0 (.t 3)⟩, ⟨some 13, none, .ld 1 false (.t 12)⟩, ⟨some 14, none, .bin .lss .leaf (.t 11) (.t 13)⟩, ⟨some 4, none, .mv (.t 14)⟩]) .ret) .skip)) (.seq (.seq (.rg [⟨some 15, none, .fa 1 (.t 2)⟩, ⟨some 16, none, .ld 1 false (.t 15)⟩, ⟨some 17, none, .fa 1 (.t 3)⟩, ⟨some 18, none, .ld 1 false (.t 17)⟩, ⟨some 19, none, .bin .neq .leaf (.t 16) (.t 18)⟩]) (.cond (.t 19) (.seq (.rg [⟨some 20, none, .fa 1 (.t 2)⟩, ⟨some 21, none, .ld 1 false (.t 20)⟩, ⟨some 22, none, .fa 1 (.t 3)⟩, ⟨some 23, none, .ld 1 false (.t 22)⟩, ⟨some 24, none, .bin .lss .leaf (.t 21) (.t 23)⟩, ⟨some 4, none, .mv (.t 24)⟩]) .ret) .skip)) (.seq (.rg [⟨some 25, none, .fa 2 (.t 2)⟩, ⟨some 26, none, .ld 1 false (.t 25)⟩, ⟨some 27, none, .fa 2 (.t 3)⟩, ⟨some 28, none, .ld 1 false (.t 27)⟩, ⟨some 29, none, .bin .lss .leaf (.t 26) (.t 28)⟩, ⟨some 4, none, .mv (.t 29)⟩]) .ret)))⟩ := by kernel_rfl
theorem c49 : cFun E0.P 49 = some ⟨24, [(2, none), (3, none)], .seq (.rg [⟨some 2, none, .mv (.k (.int .i64 0))⟩, ⟨some 3, none, .mv (.k (.bool false))⟩]) (.seq (.rg [⟨some 4, none, .mv (.k .nilsl)⟩]) (.seq (.seq (.rg [⟨some 5, none, .mv (.k (.int .i64 0))⟩]) (.block 0 (.loop (.seq (.seq (.rg [⟨some 6, none, .mv (.t 5)⟩, ⟨some 7, none, .mv (.t 0)⟩, ⟨some 8, none, .len 1 (.t 7)⟩, ⟨some 9, none, .bin .lss .leaf (.t 6) (.t 8)⟩]) (.cond (.t 9) .skip (.exit 0))) (.seq (.block 1 (.rg [⟨some 12, none, .mv (.t 4)⟩, ⟨some 13, none, .mv (.t 0)⟩, ⟨some 14, none, .mv (.t 5)⟩, ⟨some 15, none, .ia 4 (.t 13) (.t 14)⟩, ⟨some 16, none, .fa 3 (.t 15)⟩, ⟨some 17, none, .ld 1 false (.t 16)⟩, ⟨some 18, none, .buildS 1 1 [.int .i64 0] [(0, .t 17)] 2⟩, ⟨some 19, none, .app 99 2 1 8 [.int .i64 0] (.t 12) (.t 18)⟩, ⟨some 4, none, .mv (.t 19)⟩])) (.rg [⟨some 10, none, .mv (.t 5)⟩, ⟨some 11, none, .bin .add .leaf (.t 10) (.k (.int .i64 1))⟩, ⟨some 5, none, .mv (.t 11)⟩])))))) (.seq (.rg [⟨some 20, none, .mv (.t 4)⟩, ⟨some 21, none, .call 86 [.t 20]⟩, ⟨some 22, none, .ext 0 (.t 21)⟩, ⟨some 23, none, .ext 1 (.t 21)⟩, ⟨some 2, none, .mv (.t 22)⟩, ⟨some 3, none, .mv (.t 23)⟩]) .ret)))⟩ := by kernel_rfl
theorem c32 : cFun E0.P 32 = some ⟨57, [(2, none)], .seq (.rg [⟨some 1, none, .box (.t 0) 39⟩, ⟨some 2, none, .mv (.k (.int .i64 0))⟩]) (.seq (.seq (.rg [⟨some 6, none, .fa 0 (.t 1)⟩, ⟨some 7, none, .ld 1 false (.t 6)⟩, ⟨some 8, none, .bin .lss .leaf (.t 7) (.k (.int .i64 1))⟩, ⟨some 9, none, .mv (.t 8)⟩, ⟨some 10, some (9, false), .fa 0 (.t 1)⟩, ⟨some 11, some (9, false), .ld 1 false (.t 10)⟩, ⟨some 12, some (9, false), .bin .gtr .leaf (.t 11) (.k (.int .i64 3652059))⟩, ⟨some 13, none, .pick (.t 9) (.k (.bool true)) (.t 12)⟩, ⟨some 14, none, .mv (.t 13)⟩, ⟨some 15, some (14, false), .fa 1 (.t 1)⟩, ⟨some 16, some (14, false), .ld 1 false (.t 15)⟩, ⟨some 17, some (14, false), .bin .eql .leaf (.t 16) (.k (.int .u8 0))⟩, ⟨some 18, none, .pick (.t 14) (.k (.bool true)) (.t 17)⟩, ⟨some 19, none, .mv (.t 18)⟩, ⟨some 20, some (19, false), .fa 3 (.t 1)⟩, ⟨some 21, some (19, false), .ld 1 false (.t 20)⟩, ⟨some 22, some (19, false), .len 1 (.t 21)⟩, ⟨some 23, some (19, false), .bin .lss .leaf (.t 22) (.k (.int .i64 2))⟩, ⟨some 24, none, .pick (.t 19) (.k (.bool true)) (.t 23)⟩, ⟨some 25, none, .mv (.t 24)⟩, ⟨some 26, some (25, false), .fa 3 (.t 1)⟩, ⟨some 27, some (25, false), .ld 1 false (.t 26)⟩, ⟨some 28, some (25, false), .len 1 (.t 27)⟩, ⟨some 29, some (25, false), .bin .gtr .leaf (.t 28) (.k (.int .i64 64))⟩, ⟨some 30, none, .pick (.t 25) (.k (.bool true)) (.t 29)⟩]) (.cond (.t 30) (.seq (.rg [⟨some 2, none, .mv (.k (.int .i64 2))⟩]) .ret) .skip)) (.seq (.seq (.rg [⟨some 3, none, .mv (.k (.int .i64 0))⟩]) (.block 0 (.loop (.seq (.seq (.rg [⟨some 31, none, .mv (.t 3)⟩, ⟨some 32, none, .fa 3 (.t 1)⟩, ⟨some 33, none, .ld 1 false (.t 32)⟩, ⟨some 34, none, .len 1 (.t 33)⟩, ⟨some 35, none, .bin .lss .leaf (.t 31) (.t 34)⟩]) (.cond (.t 35) .skip (.exit 0))) (.seq (.block 1 (.seq (.rg [⟨some 38, none, .fa 3 (.t 1)⟩, ⟨some 39, none, .ld 1 false (.t 38)⟩, ⟨some 40, none, .mv (.t 3)⟩, ⟨some 41, none, .ia 4 (.t 39) (.t 40)⟩, ⟨some 42, none, .ld 4 true (.t 41)⟩, ⟨some 43, none, .call 47 [.t 42]⟩, ⟨some 44, none, .un .not (.t 43)⟩]) (.cond (.t 44) (.seq (.rg [⟨some 2, none, .mv (.k (.int .i64 2))⟩]) .ret) .skip))) (.rg [⟨some 36, none, .mv (.t 3)⟩, ⟨some 37, none, .bin .add .leaf (.t 36) (.k (.int .i64 1))⟩, ⟨some 3, none, .mv (.t 37)⟩])))))) (.seq (.rg [⟨some 46, none, .fa 3 (.t 1)⟩, ⟨some 47, none, .ld 1 false (.t 46)⟩, ⟨some 48, none, .call 49 [.t 47]⟩, ⟨some 45, none, .mv (.t 48)⟩, ⟨some 49, none, .ext 0 (.t 45)⟩, ⟨some 50, none, .ext 1 (.t 45)⟩, ⟨some 4, none, .mv (.t 49)⟩, ⟨some 5, none, .mv (.t 50)⟩]) (.seq (.seq (.rg [⟨some 51, none, .mv (.t 5)⟩, ⟨some 52, none, .un .not (.t 51)⟩, ⟨some 53, none, .mv (.t 52)⟩, ⟨some 54, some (53, false), .mv (.t 4)⟩, ⟨some 55, some (53, false), .bin .neq .leaf (.t 54) (.k (.int .i64 0))⟩, ⟨some 56, none, .pick (.t 53) (.k (.bool true)) (.t 55)⟩]) (.cond (.t 56) (.seq (.rg [⟨some 2, none, .mv (.k (.int .i64 200))⟩]) .ret) .skip)) (.seq (.rg [⟨some 2, none, .mv (.k (.int .i64 0))⟩]) .ret)))))⟩ := by kernel_rfl
theorem c30 : cFun E0.P 30 = some ⟨67, [(2, none), (3, none), (4, none)], .seq (.rg [⟨some 1, none, .box (.t 0) 39⟩, ⟨some 2, none, .mv (.k (.int .i64 0))⟩, ⟨some 3, none, .mv (.k (.int .i64 0))⟩, ⟨some 4, none, .mv (.k (.int .i64 0))⟩]) (.seq (.rg [⟨some 13, none, .ld 4 true (.t 1)⟩, ⟨some 14, none, .call 32 [.t 13]⟩, ⟨some 5, none, .mv (.t 14)⟩]) (.seq (.seq (.rg [⟨some 15, none, .mv (.t 5)⟩, ⟨some 16, none, .bin .neq .leaf (.t 15) (.k (.int .i64 0))⟩]) (.cond (.t 16) (.seq (.rg [⟨some 17, none, .mv (.t 5)⟩, ⟨some 2, none, .mv (.k (.int .i64 0))⟩, ⟨some 3, none, .mv (.k (.int .i64 0))⟩, ⟨some 4, none, .mv (.t 17)⟩]) .ret) .skip)) (.seq (.rg [⟨some 6, none, .mv (.k .nilsl)⟩, ⟨some 7, none, .mv (.k .nilsl)⟩]) (.seq (.seq (.rg [⟨some 8, none, .mv (.k (.int .i64 0))⟩]) (.block 0 (.loop (.seq (.seq (.rg [⟨some 18, none, .mv (.t 8)⟩, ⟨some 19, none, .fa 3 (.t 1)⟩, ⟨some 20, none, .ld 1 false (.t 19)⟩, ⟨some 21, none, .len 1 (.t 20)⟩, ⟨some 22, none, .bin .lss .leaf (.t 18) (.t 21)⟩]) (.cond (.t 22) .skip (.exit 0))) (.seq (.block 1 (.seq (.rg [⟨some 25, none, .fa 3 (.t 1)⟩, ⟨some 26, none, .ld 1 false (.t 25)⟩, ⟨some 27, none, .mv (.t 8)⟩, ⟨some 28, none, .ia 4 (.t 26) (.t 27)⟩, ⟨some 29, none, .fa 3 (.t 28)⟩, ⟨some 30, none, .ld 1 false (.t 29)⟩, ⟨some 31, none, .bin .gtr .leaf (.t 30) (.k (.int .i64 0))⟩]) (.cond (.t 31) (.rg [⟨some 32, none, .mv (.t 6)⟩, ⟨some 33, none, .fa 3 (.t 1)⟩, ⟨some 34, none, .ld 1 false (.t 33)⟩, ⟨some 35, none, .mv (.t 8)⟩, ⟨some 36, none, .ia 4 (.t 34) (.t 35)⟩, ⟨some 37, none, .ld 4 true (.t 36)⟩, ⟨some 38, none, .buildS 1 4 [.int .i64 0, .int .u64 0, .int .u64 0, .int .i64 0] [(0, .t 37)] 34⟩, ⟨some 39, none, .app 22 34 4 32 [.int .i64 0, .int .u64 0, .int .u64 0, .int .i64 0] (.t 32) (.t 38)⟩, ⟨some 6, none, .mv (.t 39)⟩]) (.rg [⟨some 40, none, .mv (.t 7)⟩, ⟨some 41, none, .fa 3 (.t 1)⟩, ⟨some 42, none, .ld 1 false (.t 41)⟩, ⟨some 43, none, .mv (.t 8)⟩, ⟨some 44, none, .ia 4 (.t 42) (.t 43)⟩, ⟨some 45, none, .ld 4 true (.t 44)⟩, ⟨some 46, none, .buildS 1 4 [.int .i64 0, .int .u64 0, .int .u64 0, .int .i64 0] [(0, .t 45)] 34⟩, ⟨some 47, none, .app 22 34 4 32 [.int .i64 0, .int .u64 0, .int .u64 0, .int .i64 0] (.t 40) (.t 46)⟩, ⟨some 7, none, .mv (.t 47)⟩])))) (.rg [⟨some 23, none, .mv (.t 8)⟩, ⟨some 24, none, .bin .add .leaf (.t 23) (.k (.int .i64 1))⟩, ⟨some 8, none, .mv (.t 24)⟩])))))) (.seq (.rg [⟨some 49, none, .mv (.t 6)⟩, ⟨some 50, none, .call 49 [.t 49]⟩, ⟨some 48, none, .mv (.t 50)⟩, ⟨some 51, none, .ext 0 (.t 48)⟩, ⟨some 52, none, .ext 1 (.t 48)⟩, ⟨some 9, none, .mv (.t 51)⟩, ⟨some 10, none, .mv (.t 52)⟩]) (.seq (.rg [⟨some 54, none, .mv (.t 7)⟩, ⟨some 55, none, .call 49 [.t 54]⟩, ⟨some 53, none, .mv (.t 55)⟩, ⟨some 56, none, .ext 0 (.t 53)⟩, ⟨some 57, none, .ext 1 (.t 53)⟩, ⟨some 11, none, .mv (.t 56)⟩, ⟨some 12, none, .mv (.t 57)⟩]) (.seq (.seq (.rg [⟨some 58, none, .mv (.t 10)⟩, ⟨some 59, none, .un .not (.t 58)⟩, ⟨some 60, none, .mv (.t 59)⟩, ⟨some 61, some (60, false), .mv (.t 12)⟩, ⟨some 62, some (60, false), .un .not (.t 61)⟩, ⟨some 63, none, .pick (.t 60) (.k (.bool true)) (.t 62)⟩]) (.cond (.t 63) (.seq (.rg [⟨some 2, none, .mv (.k (.int .i64 0))⟩, ⟨some 3, none, .mv (.k (.int .i64 0))⟩, ⟨some 4, none, .mv (.k (.int .i64 2))⟩]) .ret) .skip)) (.seq (.rg [⟨some 64, none, .mv (.t 9)⟩, ⟨some 65, none, .mv (.t 11)⟩, ⟨some 66, none, .un .neg (.t 65)⟩, ⟨some 2, none, .mv (.t 64)⟩, ⟨some 3, none, .mv (.t 66)⟩, ⟨some 4, none, .mv (.k (.int .i64 0))⟩]) .ret))))))))⟩ := by kernel_rfl

theorem rmay (x : Ln) : Pure 47 [x.d] (.bool (decide x.may)) := by
  intro S tk
  refine ACalls.fgo c47 rfl fun hS => ?_
  repeat' first | with_reducible refine fzD_ite (fun q => ?_) (fun q => ?_) | ((try conv => whnf); first
    | refine bs_d (fun q => ?_) (fun q => ?_)
    | refine bs_n ?_
    | refine bs_i (fun q => ?_) (fun q => ?_)
    | refine eqk rfl ?_
    | refine ffin _ rfl rfl hS (Sub.refl _) rfl ⟨?_, rfl, rfl⟩)
  all_goals
    simp only [tupD, D.bool.injEq, Ln.may, Bool.true_eq, Bool.false_eq, decide_eq_true_eq, decide_eq_false_iff_not, decide_eq_decide]
    first
      | exact decide_eq_true (by omega)
      | exact decide_eq_false (by omega)
theorem ralike (x y : Ln) : Pure 48 [x.d, y.d] (.bool (decide (x.t = y.t))) := by
  intro S tk
  have e : (x.t = y.t) ↔ x.acc = y.acc ∧ x.cus = y.cus ∧ x.con = y.con := by simp [Ln.t, Prod.mk.injEq]
  refine ACalls.fgo c48 rfl fun hS => ?_
  repeat' first | with_reducible refine fzD_ite (fun q => ?_) (fun q => ?_) | ((try conv => whnf); first
    | refine bs_d (fun q => ?_) (fun q => ?_)
    | refine bs_n ?_
    | refine bs_i (fun q => ?_) (fun q => ?_)
    | refine eqk rfl ?_
    | refine ffin _ rfl rfl hS (Sub.refl _) rfl ⟨?_, rfl, rfl⟩)
  all_goals
    show D.bool _ = D.bool _
    rw [show decide (x.t = y.t) = decide (x.acc = y.acc ∧ x.cus = y.cus ∧ x.con = y.con) from decide_eq_decide.2 e]
    congr 1
    first
      | exact (decide_eq_true (by omega)).symm
      | exact (decide_eq_false (by omega)).symm
      | (rw [decide_eq_decide]; omega)
theorem rless (x y : Ln) : Pure 14 [x.d, y.d] (.bool (decide (x.lt y))) := by
  intro S tk
  refine ACalls.fgo c14 rfl fun hS => ?_
  repeat' first | with_reducible refine fzD_ite (fun q => ?_) (fun q => ?_) | ((try conv => whnf); first
    | refine bs_d (fun q => ?_) (fun q => ?_)
    | refine bs_n ?_
    | refine bs_i (fun q => ?_) (fun q => ?_)
    | refine eqk rfl ?_
    | refine ffin _ rfl rfl hS (Sub.refl _) rfl ⟨?_, rfl, rfl⟩)
  all_goals
    simp only [tupD, D.bool.injEq, Ln.lt, Ti.lt, Ln.t, Bool.true_eq, Bool.false_eq, decide_eq_true_eq, decide_eq_false_iff_not, decide_eq_decide]
    first
      | exact decide_eq_true (by omega)
      | exact decide_eq_false (by omega)
      | (rw [decide_eq_decide]; omega)
theorem rsum (L : List Ln) (hl : L.length < 1000000) (hR : ∀ x ∈ L, x.R) : Pure 49 [.sl (lns L)] (sumS (L.map Ln.amt)) := by
  intro S tk
  have hlen := lns_len L
  have hsum := refSum (L.map Ln.amt) (by simp; omega) (fun n hn => by obtain ⟨x, hx, rfl⟩ := List.mem_map.1 hn; exact (hR x hx).amt)
  refine ACalls.fgo c49 rfl fun hS => ?_
  repeat' first | with_reducible refine fzD_ite (fun q => ?_) (fun q => ?_) | ((try conv => whnf); first
    | refine bs_d (fun q => ?_) (fun q => ?_)
    | refine bs_n ?_
    | refine bs_i (fun q => ?_) (fun q => ?_)
    | refine eqk rfl ?_
    | refine ffin _ rfl rfl hS (Sub.refl _) rfl ⟨?_, rfl, rfl⟩)
  refine floop (α := Nat) rfl rfl hS (fun i => i ≤ L.length) (fun i => L.length - i) (fun i => [(5, .d (.int .i64 i)), (0, .d (.sl (lns L))), (4, .d (.gsl (i64s ((L.take i).map Ln.amt)) (tk.length + 0)))]) (fun _ => []) (fun i => [((i64s ((L.take i).map Ln.amt)).length, 2, 1)]) 0 (Nat.zero_le _) (fstep_tok 2 1 (t := 4) (.inl rfl) ⟨Sub.refl _, Sub.refl _, Sub.refl _, trivial⟩) ?_
  intro i hi
  by_cases hlt : i < L.length
  · have hgl : i64s ((L.take i).map Ln.amt) ++ [[.int .i64 L[i]!.amt]] = i64s ((L.take (i + 1)).map Ln.amt) := by rw [take_snA hlt]; simp [i64s]
    repeat' first | with_reducible refine fzD_ite (fun q => ?_) (fun q => ?_) | ((try conv => whnf); first
      | refine bs_t (decide_eq_true (by omega)) ?_
      | refine bs_d (fun q => ?_) (fun q => ?_)
      | refine bs_n ?_
      | refine bs_i (fun q => ?_) (fun q => ?_)
      | refine pK_i (iaD_ln (i := i) rfl hlt) ?_
      | (refine gk_app (t := 0) (src := [[.int .i64 L[i]!.amt]]) rfl rfl (by rfl) (by rfl) (by rfl) (by simp) (by rw [i64s_len, List.length_map, List.length_take]; simp [maxLen]; omega) ?_; rw [hgl])
      | refine eqk rfl ?_
      | refine ffin _ rfl rfl hS (Sub.refl _) rfl ⟨?_, rfl, rfl⟩)
    conv => whnf
    exact fnext (α := Nat) (i + 1) (by omega) (by omega) (fstep_K rfl ⟨Sub.int (by first | rfl | omega | (refine Int.sub_eq_zero.mp ?_; simp (disch := ((try unfold I64); omega)) only [wi64_id, td]; omega)), Sub.refl _, Sub.refl _, trivial⟩)
  · obtain rfl : i = L.length := by omega
    rw [List.take_length]
    by_cases hf : -9223372036854775808 ≤ (L.map Ln.amt).sum ∧ (L.map Ln.amt).sum < 9223372036854775808
    · rw [sumS, if_pos hf] at hsum ⊢
      repeat' first | with_reducible refine fzD_ite (fun q => ?_) (fun q => ?_) | ((try conv => whnf); first
        | refine bs_f (decide_eq_false (by omega)) ?_
        | refine bs_d (fun q => ?_) (fun q => ?_)
        | refine bs_n ?_
        | refine bs_i (fun q => ?_) (fun q => ?_)
        | refine ckS (by first | rfl | simp) rfl hsum (.cons (Sub.rd rfl) .nil) ?_
        | refine eqk rfl ?_
        | refine ffin _ rfl rfl hS (Sub.refl _) rfl ⟨?_, rfl, rfl⟩)
      all_goals rfl
    · rw [sumS, if_neg hf] at hsum ⊢
      repeat' first | with_reducible refine fzD_ite (fun q => ?_) (fun q => ?_) | ((try conv => whnf); first
        | refine bs_f (decide_eq_false (by omega)) ?_
        | refine bs_d (fun q => ?_) (fun q => ?_)
        | refine bs_n ?_
        | refine bs_i (fun q => ?_) (fun q => ?_)
        | refine ckS (by first | rfl | simp) rfl hsum (.cons (Sub.rd rfl) .nil) ?_
        | refine eqk rfl ?_
        | refine ffin _ rfl rfl hS (Sub.refl _) rfl ⟨?_, rfl, rfl⟩)
      all_goals rfl
theorem rCheck (e : Ent) (hR : e.R) : Pure 32 [e.d] (.int .i64 e.chk) := by
  intro S tk
  have hlen := lns_len e.L
  by_cases hh : e.hd
  rotate_left
  · rw [Ent.chk, if_neg (fun h => hh h.1)]
    unfold Ent.hd at hh
    by_cases d1 : e.day < 1
    · refine ACalls.fgo c32 rfl fun hS => ?_
      repeat' first | with_reducible refine fzD_ite (fun q => ?_) (fun q => ?_) | ((try conv => whnf); first
        | refine bs_t (decide_eq_true d1) ?_
        | refine bs_d (fun q => ?_) (fun q => ?_)
        | refine bs_n ?_
        | refine bs_i (fun q => ?_) (fun q => ?_)
        | refine eqk rfl ?_
        | refine ffin _ rfl rfl hS (Sub.refl _) rfl ⟨?_, rfl, rfl⟩)
      all_goals rfl
    · refine ACalls.fgo c32 rfl fun hS => ?_
      repeat' first | with_reducible refine fzD_ite (fun q => ?_) (fun q => ?_) | ((try conv => whnf); first
        | refine bs_f (decide_eq_false d1) ?_
        | refine bs_d (fun q => ?_) (fun q => ?_)
        | refine bs_n ?_
        | refine bs_i (fun q => ?_) (fun q => ?_)
        | refine eqk rfl ?_
        | refine ffin _ rfl rfl hS (Sub.refl _) rfl ⟨?_, rfl, rfl⟩)
      all_goals first | rfl | (exfalso; omega)
  have hh' := hh
  unfold Ent.hd at hh'
  have hsm := rsum e.L (by omega) hR.L
  refine ACalls.fgo c32 rfl fun hS => ?_
  repeat' first | with_reducible refine fzD_ite (fun q => ?_) (fun q => ?_) | ((try conv => whnf); first
    | refine bs_f (decide_eq_false (by omega)) ?_
    | refine bs_d (fun q => ?_) (fun q => ?_)
    | refine bs_n ?_
    | refine bs_i (fun q => ?_) (fun q => ?_)
    | refine eqk rfl ?_
    | refine ffin _ rfl rfl hS (Sub.refl _) rfl ⟨?_, rfl, rfl⟩)
  conv => whnf
  refine floop (α := Nat) rfl rfl hS (fun i => i ≤ e.L.length ∧ ∀ x ∈ e.L.take i, x.may) (fun i => e.L.length - i) (fun i => [(3, .d (.int .i64 i)), (1, .lp 0 0)]) (fun _ => [.arr [.int .i64 e.day, .int .u8 e.kind, .int .u64 e.src, .sl (lns e.L)]]) (fun _ => []) 0 ⟨Nat.zero_le _, by simp⟩ (fstep_sub ⟨Sub.refl _, Sub.refl _, trivial⟩) ?_
  rintro i ⟨hi, hm⟩
  by_cases hlt : i < e.L.length
  · have hmy := rmay e.L[i]!
    by_cases hy : e.L[i]!.may
    · rw [decide_eq_true hy] at hmy
      repeat' first | with_reducible refine fzD_ite (fun q => ?_) (fun q => ?_) | ((try conv => whnf); first
        | refine bs_t (decide_eq_true (by omega)) ?_
        | refine bs_d (fun q => ?_) (fun q => ?_)
        | refine bs_n ?_
        | refine bs_i (fun q => ?_) (fun q => ?_)
        | refine pK_i (iaD_ln (i := i) rfl hlt) ?_
        | refine ck (by first | rfl | simp) rfl (hmy) ?_
        | refine cq (hmy) ?_
        | refine eqk rfl ?_
        | refine ffin _ rfl rfl hS (Sub.refl _) rfl ⟨?_, rfl, rfl⟩)
      conv => whnf
      refine fnext (α := Nat) (i + 1) ⟨by omega, fun x hx => ?_⟩ (by omega) (fstep_sub ⟨Sub.int (by first | rfl | omega | (refine Int.sub_eq_zero.mp ?_; simp (disch := ((try unfold I64); omega)) only [wi64_id, td]; omega)), Sub.refl _, trivial⟩)
      rw [take_snA hlt, List.mem_append, List.mem_singleton] at hx
      rcases hx with hx | rfl
      · exact hm x hx
      · exact hy
    · rw [decide_eq_false hy] at hmy
      rw [Ent.chk, if_neg (fun h => hy (h.2 _ (mem_at hlt)))]
      repeat' first | with_reducible refine fzD_ite (fun q => ?_) (fun q => ?_) | ((try conv => whnf); first
        | refine bs_t (decide_eq_true (by omega)) ?_
        | refine bs_d (fun q => ?_) (fun q => ?_)
        | refine bs_n ?_
        | refine bs_i (fun q => ?_) (fun q => ?_)
        | refine pK_i (iaD_ln (i := i) rfl hlt) ?_
        | refine ck (by first | rfl | simp) rfl (hmy) ?_
        | refine cq (hmy) ?_
        | refine eqk rfl ?_
        | refine ffin _ rfl rfl hS (Sub.refl _) rfl ⟨?_, rfl, rfl⟩)
      all_goals rfl
  · rw [List.take_of_length_le (by omega)] at hm
    rw [Ent.chk, if_pos ⟨hh, hm⟩]
    by_cases hz : (e.L.map Ln.amt).sum = 0
    · rw [if_pos hz]
      rw [sumS, if_pos (by omega)] at hsm
      repeat' first | with_reducible refine fzD_ite (fun q => ?_) (fun q => ?_) | ((try conv => whnf); first
        | refine bs_f (decide_eq_false (by omega)) ?_
        | refine bs_t (decide_eq_true hz) ?_
        | refine bs_d (fun q => ?_) (fun q => ?_)
        | refine bs_n ?_
        | refine bs_i (fun q => ?_) (fun q => ?_)
        | refine ck (by first | rfl | simp) rfl (hsm) ?_
        | refine cq (hsm) ?_
        | refine eqk rfl ?_
        | refine ffin _ rfl rfl hS (Sub.refl _) rfl ⟨?_, rfl, rfl⟩)
      all_goals rfl
    · rw [if_neg hz]
      by_cases hf : -9223372036854775808 ≤ (e.L.map Ln.amt).sum ∧ (e.L.map Ln.amt).sum < 9223372036854775808
      · rw [sumS, if_pos hf] at hsm
        repeat' first | with_reducible refine fzD_ite (fun q => ?_) (fun q => ?_) | ((try conv => whnf); first
          | refine bs_f (decide_eq_false (by omega)) ?_
          | refine bs_f (decide_eq_false hz) ?_
          | refine bs_d (fun q => ?_) (fun q => ?_)
          | refine bs_n ?_
          | refine bs_i (fun q => ?_) (fun q => ?_)
          | refine ck (by first | rfl | simp) rfl (hsm) ?_
          | refine cq (hsm) ?_
          | refine eqk rfl ?_
          | refine ffin _ rfl rfl hS (Sub.refl _) rfl ⟨?_, rfl, rfl⟩)
        all_goals rfl
      · rw [sumS, if_neg hf] at hsm
        repeat' first | with_reducible refine fzD_ite (fun q => ?_) (fun q => ?_) | ((try conv => whnf); first
          | refine bs_f (decide_eq_false (by omega)) ?_
          | refine bs_d (fun q => ?_) (fun q => ?_)
          | refine bs_n ?_
          | refine bs_i (fun q => ?_) (fun q => ?_)
          | refine ck (by first | rfl | simp) rfl (hsm) ?_
          | refine cq (hsm) ?_
          | refine eqk rfl ?_
          | refine ffin _ rfl rfl hS (Sub.refl _) rfl ⟨?_, rfl, rfl⟩)
        all_goals rfl
def posL (L : List Ln) : List Ln := L.filter fun x => decide (0 < x.amt)
def nonL (L : List Ln) : List Ln := L.filter fun x => !decide (0 < x.amt)
theorem posL_sum (L : List Ln) : ((posL L).map Ln.amt).sum = posS L := by
  unfold posL posS
  rw [List.filter_map]; rfl
theorem nonL_sum : ∀ {L : List Ln}, (∀ x ∈ L, x.amt ≠ 0) → ((nonL L).map Ln.amt).sum = negS L
  | [], _ => rfl
  | x :: L, h => by
    have ih := nonL_sum (L := L) fun y hy => h y (List.mem_cons_of_mem _ hy)
    have hx := h x (List.mem_cons_self ..)
    unfold nonL negS at *
    by_cases a : 0 < x.amt
    · simp [a, isNeg, show ¬ x.amt < 0 by omega] at ih ⊢; exact ih
    · simp [a, isNeg, show x.amt < 0 by omega] at ih ⊢; exact ih
theorem posL_len (L : List Ln) : (posL L).length ≤ L.length := List.length_filter_le ..
theorem nonL_len (L : List Ln) : (nonL L).length ≤ L.length := List.length_filter_le ..
theorem posL_snoc (L : List Ln) (x : Ln) : posL (L ++ [x]) = posL L ++ (if 0 < x.amt then [x] else []) := by
  unfold posL; rw [List.filter_append]
  by_cases h : 0 < x.amt <;> simp [h]
theorem nonL_snoc (L : List Ln) (x : Ln) : nonL (L ++ [x]) = nonL L ++ (if 0 < x.amt then [] else [x]) := by
  unfold nonL; rw [List.filter_append]
  by_cases h : 0 < x.amt <;> simp [h]
theorem rTotals (e : Ent) (hR : e.R) : Pure 30 [e.d] (totS e) := by
  intro S tk
  have hc := rCheck e hR
  by_cases h0 : e.chk = 0
  rotate_left
  · rw [totS, if_neg h0]
    refine ACalls.fgo c30 rfl fun hS => ?_
    repeat' first | with_reducible refine fzD_ite (fun q => ?_) (fun q => ?_) | ((try conv => whnf); first
      | refine bs_f (decide_eq_false h0) ?_
      | refine bs_d (fun q => ?_) (fun q => ?_)
      | refine bs_n ?_
      | refine bs_i (fun q => ?_) (fun q => ?_)
      | refine ck (by first | rfl | simp) rfl (hc) ?_
      | refine cq (hc) ?_
      | refine eqk rfl ?_
      | refine ffin _ rfl rfl hS (Sub.refl _) rfl ⟨?_, rfl, rfl⟩)
    all_goals rfl
  obtain ⟨h1, h2, h3⟩ := Ent.chk_0 h0
  have h4 := pos_neg e.L
  unfold Ent.hd at h1
  rw [h0] at hc
  have hlen := lns_len e.L
  have s1 := rsum (posL e.L) (by have := posL_len e.L; omega) (fun x hx => hR.L x (List.mem_filter.1 hx).1)
  have s2 := rsum (nonL e.L) (by have := nonL_len e.L; omega) (fun x hx => hR.L x (List.mem_filter.1 hx).1)
  have hs := posL_sum e.L
  have hn := nonL_sum (L := e.L) fun x hx => (h2 x hx).2.2.1
  have e4 : negS e.L = - posS e.L := by omega
  rw [totS, if_pos h0]
  refine ACalls.fgo c30 rfl fun hS => ?_
  repeat' first | with_reducible refine fzD_ite (fun q => ?_) (fun q => ?_) | ((try conv => whnf); first
    | refine bs_d (fun q => ?_) (fun q => ?_)
    | refine bs_n ?_
    | refine bs_i (fun q => ?_) (fun q => ?_)
    | refine ck (by first | rfl | simp) rfl (hc) ?_
    | refine cq (hc) ?_
    | refine eqk rfl ?_
    | refine ffin _ rfl rfl hS (Sub.refl _) rfl ⟨?_, rfl, rfl⟩)
  conv => whnf
  refine floop (α := Nat) rfl rfl hS (fun i => i ≤ e.L.length) (fun i => e.L.length - i) (fun i => [(8, .d (.int .i64 i)), (1, .lp 0 0), (6, .d (.gsl (lns (posL (e.L.take i))) (tk.length + 0))), (7, .d (.gsl (lns (nonL (e.L.take i))) (tk.length + 1)))]) (fun _ => [.arr [.int .i64 e.day, .int .u8 e.kind, .int .u64 e.src, .sl (lns e.L)]]) (fun i => [((lns (posL (e.L.take i))).length, 34, 4), ((lns (nonL (e.L.take i))).length, 34, 4)]) 0 (Nat.zero_le _)
    ((fstep_tok (fr' := [(6, .d (.gsl [] (tk.length + 0))), (8, .d (.int .i64 (0 : Nat))), (1, .lp 0 0), (7, .d .nilsl)]) 34 4 (t := 6) (.inl rfl) ⟨Sub.refl _, Sub.refl _, Sub.refl _, Sub.refl _, trivial⟩).trans (fstep_tok 34 4 (t := 7) (.inl rfl) ⟨Sub.refl _, Sub.refl _, Sub.refl _, Sub.refl _, trivial⟩)) ?_
  intro i hi
  have l1 := posL_len (e.L.take i)
  have l2 := nonL_len (e.L.take i)
  have l3 : (e.L.take i).length ≤ 64 := by rw [List.length_take]; omega
  by_cases hlt : i < e.L.length
  · have p1 := posL_snoc (e.L.take i) e.L[i]!
    have p2 := nonL_snoc (e.L.take i) e.L[i]!
    rw [← take_snA hlt] at p1 p2
    by_cases hp : 0 < e.L[i]!.amt
    · rw [if_pos hp] at p1 p2
      rw [List.append_nil] at p2
      have hgl : lns (posL (e.L.take i)) ++ [(e.L[i]!).cs] = lns (posL (e.L.take (i + 1))) := by rw [p1]; simp [lns]
      rw [← p2]
      repeat' first | with_reducible refine fzD_ite (fun q => ?_) (fun q => ?_) | ((try conv => whnf); first
        | refine bs_t (decide_eq_true (by omega)) ?_
        | refine bs_t (decide_eq_true hp) ?_
        | refine bs_d (fun q => ?_) (fun q => ?_)
        | refine bs_n ?_
        | refine bs_i (fun q => ?_) (fun q => ?_)
        | refine pK_i (iaD_ln (i := i) rfl hlt) ?_
        | (refine gk_app (t := 0) (src := [(e.L[i]!).cs]) rfl rfl (by rfl) (by rfl) (by rfl) (by simp [Ln.cs]) (by rw [lns_len]; simp [maxLen]; omega) ?_; rw [hgl])
        | refine eqk rfl ?_
        | refine ffin _ rfl rfl hS (Sub.refl _) rfl ⟨?_, rfl, rfl⟩)
      conv => whnf
      exact fnext (α := Nat) (i + 1) (by omega) (by omega) (fstep_K rfl ⟨Sub.int (by first | rfl | omega | (refine Int.sub_eq_zero.mp ?_; simp (disch := ((try unfold I64); omega)) only [wi64_id, td]; omega)), Sub.refl _, Sub.refl _, Sub.refl _, trivial⟩)
    · rw [if_neg hp] at p1 p2
      rw [List.append_nil] at p1
      have hgl : lns (nonL (e.L.take i)) ++ [(e.L[i]!).cs] = lns (nonL (e.L.take (i + 1))) := by rw [p2]; simp [lns]
      rw [← p1]
      repeat' first | with_reducible refine fzD_ite (fun q => ?_) (fun q => ?_) | ((try conv => whnf); first
        | refine bs_t (decide_eq_true (by omega)) ?_
        | refine bs_f (decide_eq_false hp) ?_
        | refine bs_d (fun q => ?_) (fun q => ?_)
        | refine bs_n ?_
        | refine bs_i (fun q => ?_) (fun q => ?_)
        | refine pK_i (iaD_ln (i := i) rfl hlt) ?_
        | (refine gk_app (t := 1) (src := [(e.L[i]!).cs]) rfl rfl (by rfl) (by rfl) (by rfl) (by simp [Ln.cs]) (by rw [lns_len]; simp [maxLen]; omega) ?_; rw [hgl])
        | refine eqk rfl ?_
        | refine ffin _ rfl rfl hS (Sub.refl _) rfl ⟨?_, rfl, rfl⟩)
      conv => whnf
      exact fnext (α := Nat) (i + 1) (by omega) (by omega) (fstep_K rfl ⟨Sub.int (by first | rfl | omega | (refine Int.sub_eq_zero.mp ?_; simp (disch := ((try unfold I64); omega)) only [wi64_id, td]; omega)), Sub.refl _, Sub.refl _, Sub.refl _, trivial⟩)
  · obtain rfl : i = e.L.length := by omega
    rw [List.take_length]
    by_cases hf : posS e.L < 9223372036854775808
    · rw [sumS, hs, if_pos (by omega)] at s1
      rw [sumS, hn, if_pos (by omega), e4] at s2
      rw [if_pos hf]
      repeat' first | with_reducible refine fzD_ite (fun q => ?_) (fun q => ?_) | ((try conv => whnf); first
        | refine bs_f (decide_eq_false (by omega)) ?_
        | refine bs_d (fun q => ?_) (fun q => ?_)
        | refine bs_n ?_
        | refine bs_i (fun q => ?_) (fun q => ?_)
        | refine ckS (by first | rfl | simp) rfl s1 (.cons (Sub.rd rfl) .nil) ?_
        | refine ckS (by first | rfl | simp) rfl s2 (.cons (Sub.rd rfl) .nil) ?_
        | refine eqk rfl ?_
        | refine ffin _ rfl rfl hS (Sub.refl _) rfl ⟨?_, rfl, rfl⟩)
      have hw : IntKind.wrap .i64 (0 - -posS e.L) = posS e.L := by rw [show 0 - -posS e.L = posS e.L by omega]; exact wi64_id (by unfold I64; omega)
      exact congrArg (fun z => D.tup [.int .i64 (posS e.L), .int .i64 z, .int .i64 0]) hw
    · rw [sumS, hs, if_neg (by omega)] at s1
      rw [if_neg hf]
      by_cases hg : -9223372036854775808 ≤ negS e.L
      · rw [sumS, hn, if_pos (by omega)] at s2
        repeat' first | with_reducible refine fzD_ite (fun q => ?_) (fun q => ?_) | ((try conv => whnf); first
          | refine bs_f (decide_eq_false (by omega)) ?_
          | refine bs_d (fun q => ?_) (fun q => ?_)
          | refine bs_n ?_
          | refine bs_i (fun q => ?_) (fun q => ?_)
          | refine ckS (by first | rfl | simp) rfl s1 (.cons (Sub.rd rfl) .nil) ?_
          | refine ckS (by first | rfl | simp) rfl s2 (.cons (Sub.rd rfl) .nil) ?_
          | refine eqk rfl ?_
          | refine ffin _ rfl rfl hS (Sub.refl _) rfl ⟨?_, rfl, rfl⟩)
        all_goals rfl
      · rw [sumS, hn, if_neg (by omega)] at s2
        repeat' first | with_reducible refine fzD_ite (fun q => ?_) (fun q => ?_) | ((try conv => whnf); first
          | refine bs_f (decide_eq_false (by omega)) ?_
          | refine bs_d (fun q => ?_) (fun q => ?_)
          | refine bs_n ?_
          | refine bs_i (fun q => ?_) (fun q => ?_)
          | refine ckS (by first | rfl | simp) rfl s1 (.cons (Sub.rd rfl) .nil) ?_
          | refine ckS (by first | rfl | simp) rfl s2 (.cons (Sub.rd rfl) .nil) ?_
          | refine eqk rfl ?_
          | refine ffin _ rfl rfl hS (Sub.refl _) rfl ⟨?_, rfl, rfl⟩)
        all_goals rfl
end Go.KL.Ytogpeefldehnkaa.J

/- the document's journal: lines, tidied -/
set_option linter.unusedVariables false
set_option linter.unusedSimpArgs false
set_option linter.unusedSectionVars false
set_option maxRecDepth 4000
namespace Go.KL.Ytogpeefldehnkaa.J
open Go Go.KL Go.RowKit Go.Proofs Go.KL.Ytogpeefldehnkaa

theorem c50 : cFun E0.P 50 = some ⟨35, [(4, none)], .seq (.rg [⟨some 3, none, .box (.t 1) 34⟩, ⟨some 4, none, .mv (.k .nilsl)⟩]) (.seq (.rg [⟨some 5, none, .mv (.k (.int .i64 0))⟩]) (.seq (.block 0 (.loop (.seq (.seq (.rd [(⟨some 7, none, .mv (.t 5)⟩, none), (⟨some 8, none, .mv (.t 0)⟩, none), (⟨some 9, none, .len 1 (.t 8)⟩, none), (⟨some 10, none, .bin .lss .leaf (.t 7) (.t 9)⟩, none), (⟨some 11, none, .mv (.t 10)⟩, none), (⟨some 12, some (11, true), .mv (.t 0)⟩, none), (⟨some 13, some (11, true), .mv (.t 5)⟩, none), (⟨some 14, some (11, true), .ia 4 (.t 12) (.t 13)⟩, none), (⟨some 15, some (11, true), .ld 4 true (.t 14)⟩, none), (⟨some 16, some (11, true), .ld 4 true (.t 3)⟩, none), (⟨some 17, some (11, true), .call 14 [.t 15, .t 16]⟩, some []), (⟨some 18, none, .pick (.t 11) (.t 17) (.k (.bool false))⟩, none)]) (.cond (.t 18) .skip (.exit 0))) (.block 1 (.rg [⟨some 19, none, .mv (.t 5)⟩, ⟨some 20, none, .bin .add .leaf (.t 19) (.k (.int .i64 1))⟩, ⟨some 5, none, .mv (.t 20)⟩]))))) (.seq (.rg [⟨some 21, none, .buildS 0 4 [.int .i64 0, .int .u64 0, .int .u64 0, .int .i64 0] [] 34⟩, ⟨some 22, none, .mv (.t 0)⟩, ⟨some 23, none, .mv (.t 5)⟩, ⟨some 24, none, .slL 4 (.t 22) none (some (.t 23)) none⟩, ⟨some 25, none, .app 22 34 4 32 [.int .i64 0, .int .u64 0, .int .u64 0, .int .i64 0] (.t 21) (.t 24)⟩, ⟨some 6, none, .mv (.t 25)⟩]) (.seq (.rg [⟨some 26, none, .mv (.t 6)⟩, ⟨some 27, none, .ld 4 true (.t 3)⟩, ⟨some 28, none, .buildS 1 4 [.int .i64 0, .int .u64 0, .int .u64 0, .int .i64 0] [(0, .t 27)] 34⟩, ⟨some 29, none, .app 22 34 4 32 [.int .i64 0, .int .u64 0, .int .u64 0, .int .i64 0] (.t 26) (.t 28)⟩, ⟨some 6, none, .mv (.t 29)⟩]) (.seq (.rg [⟨some 30, none, .mv (.t 6)⟩, ⟨some 31, none, .mv (.t 0)⟩, ⟨some 32, none, .mv (.t 5)⟩, ⟨some 33, none, .slL 4 (.t 31) (some (.t 32)) none none⟩, ⟨some 34, none, .app 22 34 4 32 [.int .i64 0, .int .u64 0, .int .u64 0, .int .i64 0] (.t 30) (.t 33)⟩, ⟨some 4, none, .mv (.t 34)⟩]) .ret)))))⟩ := by kernel_rfl
theorem c12 : cFun E0.P 12 = some ⟨89, [(2, none), (3, none)], .seq (.rg [⟨some 2, none, .mv (.k .nilsl)⟩, ⟨some 3, none, .mv (.k (.int .i64 0))⟩]) (.seq (.rg [⟨some 4, none, .mv (.k .nilsl)⟩]) (.seq (.seq (.rg [⟨some 5, none, .mv (.k (.int .i64 0))⟩]) (.block 0 (.loop (.seq (.seq (.rg [⟨some 13, none, .mv (.t 5)⟩, ⟨some 14, none, .mv (.t 0)⟩, ⟨some 15, none, .len 1 (.t 14)⟩, ⟨some 16, none, .bin .lss .leaf (.t 13) (.t 15)⟩]) (.cond (.t 16) .skip (.exit 0))) (.seq (.block 1 (.seq (.rg [⟨some 19, none, .mv (.t 0)⟩, ⟨some 20, none, .mv (.t 5)⟩, ⟨some 21, none, .ia 4 (.t 19) (.t 20)⟩, ⟨some 22, none, .ld 4 true (.t 21)⟩, ⟨some 23, none, .call 47 [.t 22]⟩, ⟨some 24, none, .un .not (.t 23)⟩]) (.cond (.t 24) (.seq (.rg [⟨some 2, none, .mv (.k .nilsl)⟩, ⟨some 3, none, .mv (.k (.int .i64 2))⟩]) .ret) .skip))) (.rg [⟨some 17, none, .mv (.t 5)⟩, ⟨some 18, none, .bin .add .leaf (.t 17) (.k (.int .i64 1))⟩, ⟨some 5, none, .mv (.t 18)⟩])))))) (.seq (.seq (.rg [⟨some 6, none, .mv (.k (.int .i64 0))⟩]) (.block 2 (.loop (.seq (.seq (.rg [⟨some 25, none, .mv (.t 6)⟩, ⟨some 26, none, .mv (.t 0)⟩, ⟨some 27, none, .len 1 (.t 26)⟩, ⟨some 28, none, .bin .lss .leaf (.t 25) (.t 27)⟩]) (.cond (.t 28) .skip (.exit 2))) (.seq (.block 3 (.seq (.rg [⟨some 7, none, .mv (.k .nilsl)⟩]) (.seq (.rg [⟨some 8, none, .mv (.k (.bool true))⟩]) (.seq (.seq (.rg [⟨some 9, none, .mv (.k (.int .i64 0))⟩]) (.block 4 (.loop (.seq (.seq (.rg [⟨some 31, none, .mv (.t 9)⟩, ⟨some 32, none, .mv (.t 0)⟩, ⟨some 33, none, .len 1 (.t 32)⟩, ⟨some 34, none, .bin .lss .leaf (.t 31) (.t 33)⟩]) (.cond (.t 34) .skip (.exit 4))) (.seq (.block 5 (.seq (.rd [(⟨some 37, none, .mv (.t 0)⟩, none), (⟨some 38, none, .mv (.t 9)⟩, none), (⟨some 39, none, .ia 4 (.t 37) (.t 38)⟩, none), (⟨some 40, none, .ld 4 true (.t 39)⟩, none), (⟨some 41, none, .mv (.t 0)⟩, none), (⟨some 42, none, .mv (.t 6)⟩, none), (⟨some 43, none, .ia 4 (.t 41) (.t 42)⟩, none), (⟨some 44, none, .ld 4 true (.t 43)⟩, none), (⟨some 45, none, .call 48 [.t 40, .t 44]⟩, some [])]) (.cond (.t 45) (.seq (.rg [⟨some 46, none, .mv (.t 7)⟩, ⟨some 47, none, .mv (.t 0)⟩, ⟨some 48, none, .mv (.t 9)⟩, ⟨some 49, none, .ia 4 (.t 47) (.t 48)⟩, ⟨some 50, none, .ld 4 true (.t 49)⟩, ⟨some 51, none, .buildS 1 4 [.int .i64 0, .int .u64 0, .int .u64 0, .int .i64 0] [(0, .t 50)] 34⟩, ⟨some 52, none, .app 22 34 4 32 [.int .i64 0, .int .u64 0, .int .u64 0, .int .i64 0] (.t 46) (.t 51)⟩, ⟨some 7, none, .mv (.t 52)⟩]) (.rg [⟨some 53, none, .mv (.t 8)⟩, ⟨some 54, none, .mv (.t 53)⟩, ⟨some 55, some (54, true), .mv (.t 9)⟩, ⟨some 56, some (54, true), .mv (.t 6)⟩, ⟨some 57, some (54, true), .bin .geq .leaf (.t 55) (.t 56)⟩, ⟨some 58, none, .pick (.t 54) (.t 57) (.k (.bool false))⟩, ⟨some 8, none, .mv (.t 58)⟩])) .skip))) (.rg [⟨some 35, none, .mv (.t 9)⟩, ⟨some 36, none, .bin .add .leaf (.t 35) (.k (.int .i64 1))⟩, ⟨some 9, none, .mv (.t 36)⟩])))))) (.seq (.seq (.rg [⟨some 59, none, .mv (.t 8)⟩, ⟨some 60, none, .un .not (.t 59)⟩]) (.cond (.t 60) (.exit 3) .skip)) (.seq (.rg [⟨some 62, none, .mv (.t 7)⟩, ⟨some 63, none, .call 49 [.t 62]⟩, ⟨some 61, none, .mv (.t 63)⟩, ⟨some 64, none, .ext 0 (.t 61)⟩, ⟨some 65, none, .ext 1 (.t 61)⟩, ⟨some 10, none, .mv (.t 64)⟩, ⟨some 11, none, .mv (.t 65)⟩]) (.seq (.rg [⟨some 66, none, .mv (.t 0)⟩, ⟨some 67, none, .mv (.t 6)⟩, ⟨some 68, none, .ia 4 (.t 66) (.t 67)⟩, ⟨some 69, none, .ld 4 true (.t 68)⟩, ⟨some 12, none, .alloc [.int .i64 0, .int .u64 0, .int .u64 0, .int .i64 0] 34⟩, ⟨none, none, .st 4 (.t 12) (.t 69)⟩]) (.seq (.rg [⟨some 70, none, .mv (.t 10)⟩, ⟨some 71, none, .fa 3 (.t 12)⟩, ⟨none, none, .st 1 (.t 71) (.t 70)⟩]) (.seq (.seq (.rg [⟨some 72, none, .mv (.t 11)⟩, ⟨some 73, none, .un .not (.t 72)⟩, ⟨some 74, none, .mv (.t 73)⟩, ⟨some 75, some (74, false), .mv (.t 10)⟩, ⟨some 76, some (74, false), .bin .neq .leaf (.t 75) (.k (.int .i64 0))⟩, ⟨some 77, some (74, false), .mv (.t 76)⟩, ⟨some 78, some (77, true), .ld 4 true (.t 12)⟩, ⟨some 79, some (77, true), .call 47 [.t 78]⟩, ⟨some 80, some (77, true), .un .not (.t 79)⟩, ⟨some 81, some (74, false), .pick (.t 77) (.t 80) (.k (.bool false))⟩, ⟨some 82, none, .pick (.t 74) (.k (.bool true)) (.t 81)⟩]) (.cond (.t 82) (.seq (.rg [⟨some 2, none, .mv (.k .nilsl)⟩, ⟨some 3, none, .mv (.k (.int .i64 2))⟩]) .ret) .skip)) (.seq (.rg [⟨some 83, none, .mv (.t 10)⟩, ⟨some 84, none, .bin .neq .leaf (.t 83) (.k (.int .i64 0))⟩]) (.cond (.t 84) (.rg [⟨some 85, none, .mv (.t 4)⟩, ⟨some 86, none, .ld 4 true (.t 12)⟩, ⟨some 87, none, .call 50 [.t 85, .t 86]⟩, ⟨some 4, none, .mv (.t 87)⟩]) .skip))))))))))) (.rg [⟨some 29, none, .mv (.t 6)⟩, ⟨some 30, none, .bin .add .leaf (.t 29) (.k (.int .i64 1))⟩, ⟨some 6, none, .mv (.t 30)⟩])))))) (.seq (.rg [⟨some 88, none, .mv (.t 4)⟩, ⟨some 2, none, .mv (.t 88)⟩, ⟨some 3, none, .mv (.k (.int .i64 0))⟩]) .ret))))⟩ := by kernel_rfl

/-! ## a line in its place -/
def insL : List Ln → Ln → List Ln
  | [], x => [x]
  | y :: r, x => if y.lt x then y :: insL r x else x :: y :: r
theorem insL_step {l : List Ln} {x : Ln} {i : Nat} (hi : i < l.length) (h : (l[i]!).lt x) (hI : insL l x = l.take i ++ insL (l.drop i) x) : insL l x = l.take (i + 1) ++ insL (l.drop (i + 1)) x := by
  rw [hI, take_snA hi, List.drop_eq_getElem_cons hi, ← getElem!_pos l i hi, insL, if_pos h]; simp
theorem insL_stop {l : List Ln} {x : Ln} {i : Nat} (h : l.length ≤ i ∨ (i < l.length ∧ ¬ (l[i]!).lt x)) (hI : insL l x = l.take i ++ insL (l.drop i) x) : insL l x = l.take i ++ [x] ++ l.drop i := by
  rw [hI]
  rcases h with h | ⟨hi, h⟩
  · rw [List.drop_of_length_le h]; simp [insL]
  · rw [List.drop_eq_getElem_cons hi, ← getElem!_pos l i hi, insL, if_neg h]; simp
theorem mem_insL {y : Ln} : ∀ {l : List Ln} {x : Ln}, y ∈ insL l x ↔ y = x ∨ y ∈ l
  | [], x => by simp [insL]
  | z :: r, x => by
    rw [insL]
    split
    · rw [List.mem_cons, mem_insL, List.mem_cons]
      constructor
      · rintro (h | h | h)
        · exact .inr (.inl h)
        · exact .inl h
        · exact .inr (.inr h)
      · rintro (h | h | h)
        · exact .inr (.inl h)
        · exact .inl h
        · exact .inr (.inr h)
    · simp
theorem len_insL : ∀ {l : List Ln} {x : Ln}, (insL l x).length = l.length + 1
  | [], x => rfl
  | z :: r, x => by
    rw [insL]
    split
    · simp [len_insL]
    · simp
theorem st_insL : ∀ {l : List Ln} {x : Ln}, l.Pairwise Ln.lt → (∀ y ∈ l, y.t ≠ x.t) → (insL l x).Pairwise Ln.lt
  | [], x, _, _ => by simp [insL]
  | z :: r, x, h, hn => by
    rw [List.pairwise_cons] at h
    rw [insL]
    split
    · rename_i hz
      rw [List.pairwise_cons]
      refine ⟨fun y hy => ?_, st_insL h.2 fun y hy => hn y (List.mem_cons_of_mem _ hy)⟩
      rcases mem_insL.1 hy with rfl | hy
      · exact hz
      · exact h.1 y hy
    · rename_i hz
      have hxz : x.lt z := by
        rcases Ti.tri z.t x.t with k | k | k
        · exact absurd k hz
        · exact absurd k (hn z (List.mem_cons_self ..))
        · exact k
      rw [List.pairwise_cons]
      refine ⟨fun y hy => ?_, by rw [List.pairwise_cons]; exact h⟩
      rcases List.mem_cons.1 hy with rfl | hy
      · exact hxz
      · exact Ti.lt_trans hxz (h.1 y hy)
theorem lns_app (a b : List Ln) : lns (a ++ b) = lns a ++ lns b := List.map_append
theorem ln4 (l : List Ln) : ∀ s ∈ lns l, s.length = 4 := fun s hs => by obtain ⟨x, _, rfl⟩ := List.mem_map.1 hs; rfl
theorem slD_takeL {l : List Ln} {k : IntKind} {i : Nat} {n : Int} (h : n = i) (hi : i ≤ l.length) : slD 4 (.sl (lns l)) none (some (.int k n)) none = some (.sl (lns (l.take i))) := by
  subst h
  simp only [slD, D.rd, if_pos (ln4 l), bnd, lns_len]
  rw [if_pos ⟨by omega, by omega⟩]
  simp [lns, List.map_take]
theorem slD_dropL {l : List Ln} {k : IntKind} {i : Nat} {n : Int} (h : n = i) (hi : i ≤ l.length) : slD 4 (.sl (lns l)) (some (.int k n)) none none = some (.sl (lns (l.drop i))) := by
  subst h
  simp only [slD, D.rd, if_pos (ln4 l), bnd, lns_len]
  rw [if_pos ⟨by omega, by omega⟩]
  simp only [Int.toNat_natCast]
  rw [List.take_of_length_le (by rw [lns_len]; omega)]
  simp [lns, List.map_drop]
theorem rput (l : List Ln) (x : Ln) (hl : l.length < 1000000) : Pure 50 [.sl (lns l), x.d] (.sl (lns (insL l x))) := by
  intro S tk
  have hlen := lns_len l
  refine ACalls.fgo c50 rfl fun hS => ?_
  repeat' first | with_reducible refine fzD_ite (fun q => ?_) (fun q => ?_) | ((try conv => whnf); first
    | refine bs_d (fun q => ?_) (fun q => ?_)
    | refine bs_n ?_
    | refine bs_i (fun q => ?_) (fun q => ?_)
    | refine eqk rfl ?_
    | refine ffin _ rfl rfl hS (Sub.refl _) rfl ⟨?_, rfl, rfl⟩)
  refine floop (α := Nat) rfl rfl hS (fun i => i ≤ l.length ∧ insL l x = l.take i ++ insL (l.drop i) x) (fun i => l.length - i) (fun i => [(5, .d (.int .i64 i)), (0, .d (.sl (lns l))), (3, .lp 0 0)]) (fun _ => [.arr x.cs]) (fun _ => []) 0 ⟨Nat.zero_le _, rfl⟩ (fstep_sub ⟨Sub.refl _, Sub.refl _, Sub.refl _, trivial⟩) ?_
  rintro i ⟨hi, hI⟩
  have lt1 : (lns (l.take i)).length ≤ 1000000 := by rw [lns_len]; exact Nat.le_trans (List.length_take_le ..) (by omega)
  have lt2 : (lns (l.drop i)).length ≤ 1000000 := by rw [lns_len, List.length_drop]; omega
  have e3 : lns (l.take i) ++ [x.cs] ++ lns (l.drop i) = lns (l.take i ++ [x] ++ l.drop i) := by rw [lns_app, lns_app]; rfl
  by_cases hlt : i < l.length
  · have hle := rless l[i]! x
    by_cases hx : (l[i]!).lt x
    · rw [decide_eq_true hx] at hle
      repeat' first | with_reducible refine fzD_ite (fun q => ?_) (fun q => ?_) | ((try conv => whnf); first
        | refine bs_t (decide_eq_true (by omega)) ?_
        | refine bs_d (fun q => ?_) (fun q => ?_)
        | refine bs_n ?_
        | refine bs_i (fun q => ?_) (fun q => ?_)
        | refine pK_i (iaD_ln (i := i) rfl hlt) ?_
        | refine ck (by first | rfl | simp) rfl (hle) ?_
        | refine cq (hle) ?_
        | refine eqk rfl ?_
        | refine ffin _ rfl rfl hS (Sub.refl _) rfl ⟨?_, rfl, rfl⟩)
      conv => whnf
      exact fnext (α := Nat) (i + 1) ⟨by omega, insL_step hlt hx hI⟩ (by omega) (fstep_sub ⟨Sub.int (by first | rfl | omega | (refine Int.sub_eq_zero.mp ?_; simp (disch := ((try unfold I64); omega)) only [wi64_id, td]; omega)), Sub.refl _, Sub.refl _, trivial⟩)
    · rw [decide_eq_false hx] at hle
      rw [insL_stop (.inr ⟨hlt, hx⟩) hI, ← e3]
      repeat' first | with_reducible refine fzD_ite (fun q => ?_) (fun q => ?_) | ((try conv => whnf); first
        | refine bs_t (decide_eq_true (by omega)) ?_
        | refine bs_d (fun q => ?_) (fun q => ?_)
        | refine bs_n ?_
        | refine bs_i (fun q => ?_) (fun q => ?_)
        | refine pK_i (iaD_ln (i := i) rfl hlt) ?_
        | refine ck (by first | rfl | simp) rfl (hle) ?_
        | refine cq (hle) ?_
        | refine pK_i (slD_takeL (i := i) rfl hi) ?_
        | refine pK_i (slD_dropL (i := i) rfl hi) ?_
        | refine gk_app0 (src := lns (l.take i)) rfl rfl (.inr rfl) rfl (ln4 _) ⟨by simp [maxLen]; omega, by omega⟩ ?_
        | refine gk_app (t := 0) (src := [x.cs]) rfl rfl (by rfl) (by rfl) (by rfl) (by simp [Ln.cs]) (by simp [maxLen]; omega) ?_
        | refine gk_app (t := 0) (src := lns (l.drop i)) rfl rfl (by rfl) (by rfl) (by rfl) (ln4 _) (by simp [maxLen]; omega) ?_
        | refine ffin (.sl (lns (l.take i) ++ [x.cs] ++ lns (l.drop i))) rfl rfl hS (Sub.rd rfl) ?_ ⟨?_, rfl, rfl⟩
        | refine eqk rfl ?_
        | refine ffin _ rfl rfl hS (Sub.refl _) rfl ⟨?_, rfl, rfl⟩)
      all_goals first | rfl | (simp only [D.sc, e3, scLL_lns])
  · rw [insL_stop (.inl (by omega)) hI, ← e3]
    repeat' first | with_reducible refine fzD_ite (fun q => ?_) (fun q => ?_) | ((try conv => whnf); first
      | refine bs_f (decide_eq_false (by omega)) ?_
      | refine bs_d (fun q => ?_) (fun q => ?_)
      | refine bs_n ?_
      | refine bs_i (fun q => ?_) (fun q => ?_)
      | refine pK_i (slD_takeL (i := i) rfl hi) ?_
      | refine pK_i (slD_dropL (i := i) rfl hi) ?_
      | refine gk_app0 (src := lns (l.take i)) rfl rfl (.inr rfl) rfl (ln4 _) ⟨by simp [maxLen]; omega, by omega⟩ ?_
      | refine gk_app (t := 0) (src := [x.cs]) rfl rfl (by rfl) (by rfl) (by rfl) (by simp [Ln.cs]) (by simp [maxLen]; omega) ?_
      | refine gk_app (t := 0) (src := lns (l.drop i)) rfl rfl (by rfl) (by rfl) (by rfl) (ln4 _) (by simp [maxLen]; omega) ?_
      | refine ffin (.sl (lns (l.take i) ++ [x.cs] ++ lns (l.drop i))) rfl rfl hS (Sub.rd rfl) ?_ ⟨?_, rfl, rfl⟩
      | refine eqk rfl ?_
      | refine ffin _ rfl rfl hS (Sub.refl _) rfl ⟨?_, rfl, rfl⟩)
    all_goals first | rfl | (simp only [D.sc, e3, scLL_lns])

/-! ## tidying -/
def ownL (l : List Ln) (t : Ti) (k : Nat) : List Ln := (l.take k).filter fun y => decide (y.t = t)
def fstB (l : List Ln) (i k : Nat) : Bool := (List.range k).all fun j => !decide ((l[j]!).t = (l[i]!).t) || decide (i ≤ j)
theorem ownL_s {l : List Ln} {t : Ti} {k : Nat} (hk : k < l.length) : ownL l t (k + 1) = ownL l t k ++ (if (l[k]!).t = t then [l[k]!] else []) := by
  unfold ownL
  rw [take_snA hk, List.filter_append]
  by_cases h : (l[k]!).t = t
  · rw [if_pos h]; simp only [List.filter_cons, h, decide_true, if_true, List.filter_nil]
  · rw [if_neg h]; simp only [List.filter_cons, h, decide_false, List.filter_nil]; rfl
theorem ownL_len (l : List Ln) (t : Ti) (k : Nat) : (ownL l t k).length ≤ l.length := Nat.le_trans (List.length_filter_le ..) (by rw [List.length_take]; omega)
theorem ownL_all (l : List Ln) (t : Ti) : (ownL l t l.length).map Ln.amt = amtsT l t := by rw [ownL, List.take_length]; rfl
theorem fstB_s (l : List Ln) (i k : Nat) : fstB l i (k + 1) = (fstB l i k && (!decide ((l[k]!).t = (l[i]!).t) || decide (i ≤ k))) := by
  unfold fstB; rw [List.range_succ, List.all_append]; simp
theorem fstB_all {l : List Ln} {i : Nat} (hi : i < l.length) : fstB l i l.length = true ↔ (l[i]!).t ∉ (l.take i).map Ln.t := by
  rw [fstB, List.all_eq_true]
  constructor
  · intro h hm
    obtain ⟨x, hx, he⟩ := List.mem_map.1 hm
    obtain ⟨j, hj, rfl⟩ := List.getElem_of_mem hx
    rw [List.length_take] at hj
    have := h j (List.mem_range.2 (by omega))
    rw [List.getElem_take] at he
    rw [getElem!_pos l j (by omega), decide_eq_true he, decide_eq_false (by omega)] at this
    simp at this
  · intro h j hj
    rw [List.mem_range] at hj
    by_cases he : (l[j]!).t = (l[i]!).t
    · by_cases hij : i ≤ j
      · simp [hij]
      · refine absurd (List.mem_map.2 ⟨l[j]!, ?_, he⟩) h
        rw [getElem!_pos l j hj]
        exact List.mem_iff_getElem.2 ⟨j, by rw [List.length_take]; omega, by rw [List.getElem_take]⟩
    · rw [decide_eq_false he]; rfl
structure TdP (l : List Ln) (i : Nat) (out : List Ln) : Prop where
  len : out.length ≤ i
  st : out.Pairwise Ln.lt
  mem : ∀ x, x ∈ out ↔ x.amt ≠ 0 ∧ x.amt = sumT l x.t ∧ x.t ∈ (l.take i).map Ln.t
  ok : ∀ x ∈ l.take i, ¬ big (sumT l x.t)
section
variable {l out : List Ln} {i : Nat}
theorem TdP.zero : TdP l 0 [] := ⟨by simp, by simp, by simp, by simp⟩
theorem tk_mem {x : Ti} (hi : i < l.length) : x ∈ (l.take (i + 1)).map Ln.t ↔ x ∈ (l.take i).map Ln.t ∨ x = (l[i]!).t := by
  rw [take_snA hi, List.map_append, List.mem_append]; simp
theorem TdP.okS (h : TdP l i out) (hi : i < l.length) (hb : ¬ big (sumT l (l[i]!).t)) : ∀ x ∈ l.take (i + 1), ¬ big (sumT l x.t) := by
  intro x hx
  rw [take_snA hi, List.mem_append, List.mem_singleton] at hx
  rcases hx with hx | rfl
  · exact h.ok x hx
  · exact hb
theorem TdP.old (h : TdP l i out) (hi : i < l.length) (hm : (l[i]!).t ∈ (l.take i).map Ln.t) : TdP l (i + 1) out := by
  have hb : ¬ big (sumT l (l[i]!).t) := by
    obtain ⟨x, hx, he⟩ := List.mem_map.1 hm
    rw [← he]; exact h.ok x hx
  refine ⟨by have := h.len; omega, h.st, fun x => ?_, h.okS hi hb⟩
  rw [h.mem, tk_mem hi]
  constructor
  · rintro ⟨a, b, c⟩; exact ⟨a, b, .inl c⟩
  · rintro ⟨a, b, c | c⟩
    · exact ⟨a, b, c⟩
    · exact ⟨a, b, c ▸ hm⟩
theorem TdP.none (h : TdP l i out) (hi : i < l.length) (h0 : sumT l (l[i]!).t = 0) : TdP l (i + 1) out := by
  refine ⟨by have := h.len; omega, h.st, fun x => ?_, h.okS hi (by rw [h0]; unfold big; omega)⟩
  rw [h.mem, tk_mem hi]
  constructor
  · rintro ⟨a, b, c⟩; exact ⟨a, b, .inl c⟩
  · rintro ⟨a, b, c | c⟩
    · exact ⟨a, b, c⟩
    · rw [c, h0] at b; exact absurd b a
theorem TdP.new (h : TdP l i out) (hi : i < l.length) (hm : (l[i]!).t ∉ (l.take i).map Ln.t) (h0 : sumT l (l[i]!).t ≠ 0) (hb : ¬ big (sumT l (l[i]!).t)) : TdP l (i + 1) (insL out { l[i]! with amt := sumT l (l[i]!).t }) := by
  have ht : ({ l[i]! with amt := sumT l (l[i]!).t } : Ln).t = (l[i]!).t := rfl
  refine ⟨by rw [len_insL]; have := h.len; omega, st_insL h.st fun y hy e => hm ?_, fun x => ?_, h.okS hi hb⟩
  · rw [ht] at e; rw [← e]; exact ((h.mem y).1 hy).2.2
  · rw [mem_insL, h.mem, tk_mem hi]
    constructor
    · rintro (rfl | ⟨a, b, c⟩)
      · exact ⟨h0, rfl, .inr rfl⟩
      · exact ⟨a, b, .inl c⟩
    · rintro ⟨a, b, c | c⟩
      · exact .inr ⟨a, b, c⟩
      · left
        cases x
        simp only [Ln.t, Prod.mk.injEq] at c b ⊢
        obtain ⟨rfl, rfl, rfl⟩ := c
        rw [b]
theorem TdP.fin (h : TdP l l.length out) : Tid l out ∧ ∀ x ∈ l, ¬ big (sumT l x.t) := by
  obtain ⟨_, h1, h2, h3⟩ := h
  rw [List.take_length] at h2 h3
  exact ⟨⟨h1, h2⟩, h3⟩
end
structure TdS where
  i : Nat
  out : List Ln
set_option maxHeartbeats 1000000 in
theorem rTidy (l : List Ln) (hl : l.length < 1000000) (hR : ∀ x ∈ l, x.R) (S : List O) (tk : Tks) :
    ACalls E0 12 [.sl (lns l)] S tk (fun r S' tk' => ((BadL l ∧ r = .tup [.sl [], .int .i64 2]) ∨ (¬ BadL l ∧ ∃ out, Tid l out ∧ r = .tup [.sl (lns out), .int .i64 0])) ∧ S' = S ∧ tk' = tk) := by
  have hlen := lns_len l
  have bad : ∀ {r}, BadL l → r = D.tup [.sl [], .int .i64 2] → (BadL l ∧ r = .tup [.sl [], .int .i64 2]) ∨ (¬ BadL l ∧ ∃ out, Tid l out ∧ r = .tup [.sl (lns out), .int .i64 0]) := fun h1 h2 => .inl ⟨h1, h2⟩
  refine ACalls.fgo c12 rfl fun hS => ?_
  repeat' first | with_reducible refine fzD_ite (fun q => ?_) (fun q => ?_) | ((try conv => whnf); first
    | refine bs_d (fun q => ?_) (fun q => ?_)
    | refine bs_n ?_
    | refine bs_i (fun q => ?_) (fun q => ?_)
    | refine eqk rfl ?_
    | refine ffin _ rfl rfl hS (Sub.refl _) rfl ⟨?_, rfl, rfl⟩)
  refine floop (α := Nat) rfl rfl hS (fun i => i ≤ l.length ∧ ∀ x ∈ l.take i, x.may) (fun i => l.length - i) (fun i => [(5, .d (.int .i64 i)), (0, .d (.sl (lns l))), (4, .d .nilsl)]) (fun _ => []) (fun _ => []) 0 ⟨Nat.zero_le _, by simp⟩ (fstep_sub ⟨Sub.refl _, Sub.refl _, Sub.refl _, trivial⟩) ?_
  rintro i ⟨hi, hm⟩
  by_cases hlt : i < l.length
  · have hmy := rmay l[i]!
    by_cases hy : l[i]!.may
    · rw [decide_eq_true hy] at hmy
      repeat' first | with_reducible refine fzD_ite (fun q => ?_) (fun q => ?_) | ((try conv => whnf); first
        | refine bs_t (decide_eq_true (by omega)) ?_
        | refine bs_d (fun q => ?_) (fun q => ?_)
        | refine bs_n ?_
        | refine bs_i (fun q => ?_) (fun q => ?_)
        | refine pK_i (iaD_ln (i := i) rfl hlt) ?_
        | refine ck (by first | rfl | simp) rfl (hmy) ?_
        | refine cq (hmy) ?_
        | refine eqk rfl ?_
        | refine ffin _ rfl rfl hS (Sub.refl _) rfl ⟨?_, rfl, rfl⟩)
      conv => whnf
      refine fnext (α := Nat) (i + 1) ⟨by omega, fun x hx => ?_⟩ (by omega) (fstep_sub ⟨Sub.int (by first | rfl | omega | (refine Int.sub_eq_zero.mp ?_; simp (disch := ((try unfold I64); omega)) only [wi64_id, td]; omega)), Sub.refl _, Sub.refl _, trivial⟩)
      rw [take_snA hlt, List.mem_append, List.mem_singleton] at hx
      rcases hx with hx | rfl
      · exact hm x hx
      · exact hy
    · rw [decide_eq_false hy] at hmy
      repeat' first | with_reducible refine fzD_ite (fun q => ?_) (fun q => ?_) | ((try conv => whnf); first
        | refine bs_t (decide_eq_true (by omega)) ?_
        | refine bs_d (fun q => ?_) (fun q => ?_)
        | refine bs_n ?_
        | refine bs_i (fun q => ?_) (fun q => ?_)
        | refine pK_i (iaD_ln (i := i) rfl hlt) ?_
        | refine ck (by first | rfl | simp) rfl (hmy) ?_
        | refine cq (hmy) ?_
        | refine ffin (.tup [.sl [], .int .i64 2]) rfl rfl hS (Sub.tup (.cons (Sub.rd rfl) (.cons (Sub.refl _) .nil))) rfl ⟨?_, rfl, rfl⟩
        | refine eqk rfl ?_
        | refine ffin _ rfl rfl hS (Sub.refl _) rfl ⟨?_, rfl, rfl⟩)
      exact bad ⟨_, mem_at hlt, .inl hy⟩ rfl
  · rw [List.take_of_length_le (by omega)] at hm
    repeat' first | with_reducible refine fzD_ite (fun q => ?_) (fun q => ?_) | ((try conv => whnf); first
      | refine bs_f (decide_eq_false (by omega)) ?_
      | refine bs_d (fun q => ?_) (fun q => ?_)
      | refine bs_n ?_
      | refine bs_i (fun q => ?_) (fun q => ?_)
      | refine eqk rfl ?_
      | refine ffin _ rfl rfl hS (Sub.refl _) rfl ⟨?_, rfl, rfl⟩)
    conv => whnf
    refine floop (α := TdS) rfl rfl hS (fun s => s.i ≤ l.length ∧ TdP l s.i s.out) (fun s => l.length - s.i) (fun s => [(6, .d (.int .i64 s.i)), (0, .d (.sl (lns l))), (4, .d (.sl (lns s.out)))]) (fun _ => []) (fun _ => []) ⟨0, []⟩ ⟨Nat.zero_le _, TdP.zero⟩ (fstep_sub ⟨Sub.refl _, Sub.refl _, Sub.rd rfl, trivial⟩) ?_
    rintro ⟨n, out⟩ ⟨hn, hp⟩
    simp only at hn hp ⊢
    by_cases hln : n < l.length
    · skip
      repeat' first | with_reducible refine fzD_ite (fun q => ?_) (fun q => ?_) | ((try conv => whnf); first
        | refine bs_t (decide_eq_true (by omega)) ?_
        | refine bs_d (fun q => ?_) (fun q => ?_)
        | refine bs_n ?_
        | refine bs_i (fun q => ?_) (fun q => ?_)
        | refine eqk rfl ?_
        | refine ffin _ rfl rfl hS (Sub.refl _) rfl ⟨?_, rfl, rfl⟩)
      conv => whnf
      refine floop (α := Nat) rfl rfl hS (fun k => k ≤ l.length) (fun k => l.length - k) (fun k => [(9, .d (.int .i64 k)), (0, .d (.sl (lns l))), (6, .d (.int .i64 n)), (4, .d (.sl (lns out))), (8, .d (.bool (fstB l n k))), (7, .d (.gsl (lns (ownL l (l[n]!).t k)) (tk.length + 0)))]) (fun _ => []) (fun k => [((lns (ownL l (l[n]!).t k)).length, 34, 4)]) 0 (Nat.zero_le _) (fstep_tok 34 4 (t := 7) (.inl rfl) ⟨Sub.refl _, Sub.refl _, Sub.refl _, Sub.refl _, Sub.refl _, Sub.refl _, trivial⟩) ?_
      intro k hk
      have hol := ownL_len l (l[n]!).t k
      by_cases hlk : k < l.length
      · have hal := ralike l[k]! l[n]!
        have hos := ownL_s (t := (l[n]!).t) hlk
        have hfs := fstB_s l n k
        by_cases ha : (l[k]!).t = (l[n]!).t
        · rw [decide_eq_true ha] at hal hfs
          rw [if_pos ha] at hos
          have hgl : lns (ownL l (l[n]!).t k) ++ [(l[k]!).cs] = lns (ownL l (l[n]!).t (k + 1)) := by rw [hos]; simp [lns]
          rw [Bool.not_true, Bool.false_or] at hfs
          cases hf0 : fstB l n k with
          | true =>
            rw [hf0, Bool.true_and] at hfs
            by_cases hnk : n ≤ k
            · rw [decide_eq_true hnk] at hfs
              repeat' first | with_reducible refine fzD_ite (fun q => ?_) (fun q => ?_) | ((try conv => whnf); first
                | refine bs_t (decide_eq_true (by omega)) ?_
                | refine bs_t (decide_eq_true (show (n : Int) ≤ k by omega)) ?_
                | refine bs_d (fun q => ?_) (fun q => ?_)
                | refine bs_n ?_
                | refine bs_i (fun q => ?_) (fun q => ?_)
                | refine pK_i (iaD_ln (i := k) rfl hlk) ?_
                | refine pK_i (iaD_ln (i := n) rfl hln) ?_
                | refine ck (by first | rfl | simp) rfl (hal) ?_
                | refine cq (hal) ?_
                | (refine gk_app (t := 0) (src := [(l[k]!).cs]) rfl rfl (by rfl) (by rfl) (by rfl) (by simp [Ln.cs]) (by rw [lns_len]; generalize (ownL l (l[n]!).t k).length = z at hol ⊢; simp [maxLen]; omega) ?_; rw [hgl])
                | refine eqk rfl ?_
                | refine ffin _ rfl rfl hS (Sub.refl _) rfl ⟨?_, rfl, rfl⟩)
              conv => whnf
              exact fnext (α := Nat) (k + 1) (by omega) (by omega) (fstep_K rfl ⟨Sub.int (by first | rfl | omega | (refine Int.sub_eq_zero.mp ?_; simp (disch := ((try unfold I64); omega)) only [wi64_id, td]; omega)), Sub.refl _, Sub.refl _, Sub.refl _, Sub.of (by rw [hfs]; rfl), Sub.refl _, trivial⟩)
            · rw [decide_eq_false hnk] at hfs
              repeat' first | with_reducible refine fzD_ite (fun q => ?_) (fun q => ?_) | ((try conv => whnf); first
                | refine bs_t (decide_eq_true (by omega)) ?_
                | refine bs_f (decide_eq_false (show ¬ (n : Int) ≤ k by omega)) ?_
                | refine bs_d (fun q => ?_) (fun q => ?_)
                | refine bs_n ?_
                | refine bs_i (fun q => ?_) (fun q => ?_)
                | refine pK_i (iaD_ln (i := k) rfl hlk) ?_
                | refine pK_i (iaD_ln (i := n) rfl hln) ?_
                | refine ck (by first | rfl | simp) rfl (hal) ?_
                | refine cq (hal) ?_
                | (refine gk_app (t := 0) (src := [(l[k]!).cs]) rfl rfl (by rfl) (by rfl) (by rfl) (by simp [Ln.cs]) (by rw [lns_len]; generalize (ownL l (l[n]!).t k).length = z at hol ⊢; simp [maxLen]; omega) ?_; rw [hgl])
                | refine eqk rfl ?_
                | refine ffin _ rfl rfl hS (Sub.refl _) rfl ⟨?_, rfl, rfl⟩)
              conv => whnf
              exact fnext (α := Nat) (k + 1) (by omega) (by omega) (fstep_K rfl ⟨Sub.int (by first | rfl | omega | (refine Int.sub_eq_zero.mp ?_; simp (disch := ((try unfold I64); omega)) only [wi64_id, td]; omega)), Sub.refl _, Sub.refl _, Sub.refl _, Sub.of (by rw [hfs]; rfl), Sub.refl _, trivial⟩)
          | false =>
            rw [hf0, Bool.false_and] at hfs
            repeat' first | with_reducible refine fzD_ite (fun q => ?_) (fun q => ?_) | ((try conv => whnf); first
              | refine bs_t (decide_eq_true (by omega)) ?_
              | refine bs_d (fun q => ?_) (fun q => ?_)
              | refine bs_n ?_
              | refine bs_i (fun q => ?_) (fun q => ?_)
              | refine pK_i (iaD_ln (i := k) rfl hlk) ?_
              | refine pK_i (iaD_ln (i := n) rfl hln) ?_
              | refine ck (by first | rfl | simp) rfl (hal) ?_
              | refine cq (hal) ?_
              | (refine gk_app (t := 0) (src := [(l[k]!).cs]) rfl rfl (by rfl) (by rfl) (by rfl) (by simp [Ln.cs]) (by rw [lns_len]; generalize (ownL l (l[n]!).t k).length = z at hol ⊢; simp [maxLen]; omega) ?_; rw [hgl])
              | refine eqk rfl ?_
              | refine ffin _ rfl rfl hS (Sub.refl _) rfl ⟨?_, rfl, rfl⟩)
            conv => whnf
            exact fnext (α := Nat) (k + 1) (by omega) (by omega) (fstep_K rfl ⟨Sub.int (by first | rfl | omega | (refine Int.sub_eq_zero.mp ?_; simp (disch := ((try unfold I64); omega)) only [wi64_id, td]; omega)), Sub.refl _, Sub.refl _, Sub.refl _, Sub.of (by rw [hfs]; rfl), Sub.refl _, trivial⟩)
        · rw [decide_eq_false ha] at hal hfs
          rw [if_neg ha, List.append_nil] at hos
          rw [Bool.not_false, Bool.true_or, Bool.and_true] at hfs
          repeat' first | with_reducible refine fzD_ite (fun q => ?_) (fun q => ?_) | ((try conv => whnf); first
            | refine bs_t (decide_eq_true (by omega)) ?_
            | refine bs_d (fun q => ?_) (fun q => ?_)
            | refine bs_n ?_
            | refine bs_i (fun q => ?_) (fun q => ?_)
            | refine pK_i (iaD_ln (i := k) rfl hlk) ?_
            | refine pK_i (iaD_ln (i := n) rfl hln) ?_
            | refine ck (by first | rfl | simp) rfl (hal) ?_
            | refine cq (hal) ?_
            | refine eqk rfl ?_
            | refine ffin _ rfl rfl hS (Sub.refl _) rfl ⟨?_, rfl, rfl⟩)
          conv => whnf
          rw [← hos, ← hfs]
          exact fnext (α := Nat) (k + 1) (by omega) (by omega) (fstep_sub ⟨Sub.int (by first | rfl | omega | (refine Int.sub_eq_zero.mp ?_; simp (disch := ((try unfold I64); omega)) only [wi64_id, td]; omega)), Sub.refl _, Sub.refl _, Sub.refl _, Sub.refl _, Sub.refl _, trivial⟩)
      · obtain rfl : k = l.length := by omega
        have hfa := fstB_all hln
        cases hf0 : fstB l n l.length with
        | false =>
          rw [hf0] at hfa
          have hmm : (l[n]!).t ∈ (l.take n).map Ln.t := Classical.byContradiction fun h => by have := hfa.2 h; cases this
          repeat' first | with_reducible refine fzD_ite (fun q => ?_) (fun q => ?_) | ((try conv => whnf); first
            | refine bs_f (decide_eq_false (by omega)) ?_
            | refine bs_d (fun q => ?_) (fun q => ?_)
            | refine bs_n ?_
            | refine bs_i (fun q => ?_) (fun q => ?_)
            | refine eqk rfl ?_
            | refine ffin _ rfl rfl hS (Sub.refl _) rfl ⟨?_, rfl, rfl⟩)
          conv => whnf
          exact fnext (α := TdS) ⟨n + 1, out⟩ ⟨by simp only; omega, hp.old hln hmm⟩ (by simp only; omega) (fstep_drop (J' := []) (Jx := []) (TK' := []) (TKx := [_]) rfl rfl ⟨Sub.int (by first | rfl | omega | (refine Int.sub_eq_zero.mp ?_; simp (disch := ((try unfold I64); omega)) only [wi64_id, td]; omega)), Sub.refl _, Sub.refl _, trivial⟩ (by simp [frD, FD.to, frSc, D.sc, scLL_lns]) rfl)
        | true =>
          have hmm := hfa.1 hf0
          have hmn := hm _ (mem_at hln)
          have hrs := rsum (ownL l (l[n]!).t l.length) (by omega) (fun x hx => hR x (by rw [ownL, List.take_length] at hx; exact (List.mem_filter.1 hx).1))
          rw [ownL_all] at hrs
          have hb2 : ∀ m, (¬ (-4611686018427387904 ≤ m ∧ m ≤ 4611686018427387904)) → sumT l (l[n]!).t = m → BadL l := fun m h1 h2 => ⟨_, mem_at hln, .inr (by unfold big; omega)⟩
          by_cases hf : -9223372036854775808 ≤ sumT l (l[n]!).t ∧ sumT l (l[n]!).t < 9223372036854775808
          · rw [sumS, if_pos (show -9223372036854775808 ≤ (amtsT l (l[n]!).t).sum ∧ (amtsT l (l[n]!).t).sum < 9223372036854775808 from hf)] at hrs
            change Pure _ _ (.tup [.int .i64 (sumT l (l[n]!).t), .bool true]) at hrs
            by_cases h0 : sumT l (l[n]!).t = 0
            · skip
              repeat' first | with_reducible refine fzD_ite (fun q => ?_) (fun q => ?_) | ((try conv => whnf); first
                | refine bs_f (decide_eq_false (by omega)) ?_
                | refine bs_t (decide_eq_true h0) ?_
                | refine bs_d (fun q => ?_) (fun q => ?_)
                | refine bs_n ?_
                | refine bs_i (fun q => ?_) (fun q => ?_)
                | refine ckS (by first | rfl | simp) rfl hrs (.cons (Sub.rd rfl) .nil) ?_
                | refine pK_i (iaD_ln (i := n) rfl hln) ?_
                | refine eqk rfl ?_
                | refine ffin _ rfl rfl hS (Sub.refl _) rfl ⟨?_, rfl, rfl⟩)
              conv => whnf
              exact fnext (α := TdS) ⟨n + 1, out⟩ ⟨by simp only; omega, hp.none hln h0⟩ (by simp only; omega) (fstep_drop (J' := []) (Jx := [_]) (TK' := []) (TKx := [_]) rfl rfl ⟨Sub.int (by first | rfl | omega | (refine Int.sub_eq_zero.mp ?_; simp (disch := ((try unfold I64); omega)) only [wi64_id, td]; omega)), Sub.refl _, Sub.refl _, trivial⟩ (by simp [frD, FD.to, frSc, D.sc, scLL_lns]) rfl)
            · have hxm := rmay { l[n]! with amt := sumT l (l[n]!).t }
              by_cases hb : big (sumT l (l[n]!).t)
              · rw [decide_eq_false (fun h => by unfold Ln.may at h; unfold big at hb; simp only at h; omega)] at hxm
                repeat' first | with_reducible refine fzD_ite (fun q => ?_) (fun q => ?_) | ((try conv => whnf); first
                  | refine bs_f (decide_eq_false (by omega)) ?_
                  | refine bs_f (decide_eq_false h0) ?_
                  | refine bs_d (fun q => ?_) (fun q => ?_)
                  | refine bs_n ?_
                  | refine bs_i (fun q => ?_) (fun q => ?_)
                  | refine ckS (by first | rfl | simp) rfl hrs (.cons (Sub.rd rfl) .nil) ?_
                  | refine pK_i (iaD_ln (i := n) rfl hln) ?_
                  | refine ck (by first | rfl | simp) rfl (hxm) ?_
                  | refine cq (hxm) ?_
                  | refine ffin (.tup [.sl [], .int .i64 2]) rfl rfl hS (Sub.tup (.cons (Sub.rd rfl) (.cons (Sub.refl _) .nil))) rfl ⟨?_, rfl, rfl⟩
                  | refine eqk rfl ?_
                  | refine ffin _ rfl rfl hS (Sub.refl _) rfl ⟨?_, rfl, rfl⟩)
                exact bad ⟨_, mem_at hln, .inr hb⟩ rfl
              · rw [decide_eq_true (by unfold Ln.may at hmn ⊢; unfold big at hb; simp only; omega)] at hxm
                have hpt := rput out { l[n]! with amt := sumT l (l[n]!).t } (by have := hp.len; omega)
                repeat' first | with_reducible refine fzD_ite (fun q => ?_) (fun q => ?_) | ((try conv => whnf); first
                  | refine bs_f (decide_eq_false (by omega)) ?_
                  | refine bs_f (decide_eq_false h0) ?_
                  | refine bs_d (fun q => ?_) (fun q => ?_)
                  | refine bs_n ?_
                  | refine bs_i (fun q => ?_) (fun q => ?_)
                  | refine ckS (by first | rfl | simp) rfl hrs (.cons (Sub.rd rfl) .nil) ?_
                  | refine pK_i (iaD_ln (i := n) rfl hln) ?_
                  | refine ck (by first | rfl | simp) rfl (hxm) ?_
                  | refine cq (hxm) ?_
                  | refine ck (by first | rfl | simp) rfl (hpt) ?_
                  | refine cq (hpt) ?_
                  | refine eqk rfl ?_
                  | refine ffin _ rfl rfl hS (Sub.refl _) rfl ⟨?_, rfl, rfl⟩)
                conv => whnf
                exact fnext (α := TdS) ⟨n + 1, _⟩ ⟨by simp only; omega, hp.new hln hmm h0 hb⟩ (by simp only; omega) (fstep_drop (J' := []) (Jx := [_]) (TK' := []) (TKx := [_]) rfl rfl ⟨Sub.int (by first | rfl | omega | (refine Int.sub_eq_zero.mp ?_; simp (disch := ((try unfold I64); omega)) only [wi64_id, td]; omega)), Sub.refl _, Sub.refl _, trivial⟩ (by simp [frD, FD.to, frSc, D.sc, scLL_lns]) rfl)
          · rw [sumS, if_neg (show ¬ (-9223372036854775808 ≤ (amtsT l (l[n]!).t).sum ∧ (amtsT l (l[n]!).t).sum < 9223372036854775808) from hf)] at hrs
            repeat' first | with_reducible refine fzD_ite (fun q => ?_) (fun q => ?_) | ((try conv => whnf); first
              | refine bs_f (decide_eq_false (by omega)) ?_
              | refine bs_d (fun q => ?_) (fun q => ?_)
              | refine bs_n ?_
              | refine bs_i (fun q => ?_) (fun q => ?_)
              | refine ckS (by first | rfl | simp) rfl hrs (.cons (Sub.rd rfl) .nil) ?_
              | refine pK_i (iaD_ln (i := n) rfl hln) ?_
              | refine ffin (.tup [.sl [], .int .i64 2]) rfl rfl hS (Sub.tup (.cons (Sub.rd rfl) (.cons (Sub.refl _) .nil))) rfl ⟨?_, rfl, rfl⟩
              | refine eqk rfl ?_
              | refine ffin _ rfl rfl hS (Sub.refl _) rfl ⟨?_, rfl, rfl⟩)
            exact bad (hb2 _ (by omega) rfl) rfl
    · obtain rfl : n = l.length := by omega
      obtain ⟨h1, h2⟩ := hp.fin
      repeat' first | with_reducible refine fzD_ite (fun q => ?_) (fun q => ?_) | ((try conv => whnf); first
        | refine bs_f (decide_eq_false (by omega)) ?_
        | refine bs_d (fun q => ?_) (fun q => ?_)
        | refine bs_n ?_
        | refine bs_i (fun q => ?_) (fun q => ?_)
        | refine ffin (.tup [.sl (lns out), .int .i64 0]) rfl rfl hS (Sub.refl _) (by simp [D.sc, scL, scLL_lns]) ⟨?_, rfl, rfl⟩
        | refine eqk rfl ?_
        | refine ffin _ rfl rfl hS (Sub.refl _) rfl ⟨?_, rfl, rfl⟩)
      refine .inr ⟨fun ⟨x, hx, hb⟩ => ?_, out, h1, rfl⟩
      rcases hb with hb | hb
      · exact hb (hm x hx)
      · exact h2 x hx hb
end Go.KL.Ytogpeefldehnkaa.J

/- journal.On: what may be posted on a chart -/
set_option linter.unusedVariables false
set_option linter.unusedSimpArgs false
set_option linter.unusedSectionVars false
set_option maxRecDepth 4000
namespace Go.KL.Ytogpeefldehnkaa.J
open Go Go.KL Go.RowKit Go.Proofs Go.KL.Ytogpeefldehnkaa

theorem c18 : cFun E0.P 18 = some ⟨54, [(4, none)], .seq (.rg [⟨some 3, none, .box (.t 1) 39⟩, ⟨some 4, none, .mv (.k (.int .i64 0))⟩]) (.seq (.seq (.rg [⟨some 13, none, .mv (.t 0)⟩, ⟨some 14, none, .call 19 [.t 13, .k (.int .i64 0)]⟩, ⟨some 12, none, .mv (.t 14)⟩, ⟨some 15, none, .ext 0 (.t 12)⟩, ⟨some 16, none, .ext 1 (.t 12)⟩, ⟨some 5, none, .alloc [.int .i64 0, .int .i64 0, .int .u8 0, .str ⟨#[]⟩, .bool false] 46⟩, ⟨none, none, .st 5 (.t 5) (.t 15)⟩, ⟨some 6, none, .mv (.t 16)⟩]) (.seq (.rg [⟨some 17, none, .mv (.t 6)⟩, ⟨some 18, none, .bin .eql .leaf (.t 17) (.k (.int .i64 1))⟩]) (.cond (.t 18) (.seq (.rg [⟨some 19, none, .mv (.t 6)⟩, ⟨some 4, none, .mv (.t 19)⟩]) .ret) .skip))) (.seq (.seq (.rg [⟨some 20, none, .ld 4 true (.t 3)⟩, ⟨some 21, none, .call 17 [.t 20]⟩, ⟨some 7, none, .mv (.t 21)⟩]) (.seq (.rg [⟨some 22, none, .mv (.t 7)⟩, ⟨some 23, none, .bin .neq .leaf (.t 22) (.k (.int .i64 0))⟩]) (.cond (.t 23) (.seq (.rg [⟨some 24, none, .mv (.t 7)⟩, ⟨some 4, none, .mv (.t 24)⟩]) .ret) .skip))) (.seq (.seq (.rg [⟨some 25, none, .fa 3 (.t 3)⟩, ⟨some 26, none, .ld 1 false (.t 25)⟩, ⟨some 27, none, .len 1 (.t 26)⟩, ⟨some 28, none, .mv (.k (.int .i64 0))⟩]) (.block 0 (.loop (.seq (.rg [⟨some 29, none, .bin .lss .leaf (.t 28) (.t 27)⟩]) (.seq (.cond (.t 29) .skip (.exit 0)) (.seq (.block 1 (.seq (.rg [⟨some 30, none, .ia 4 (.t 26) (.t 28)⟩, ⟨some 31, none, .ld 4 true (.t 30)⟩, ⟨some 9, none, .alloc [.int .i64 0, .int .u64 0, .int .u64 0, .int .i64 0] 34⟩, ⟨none, none, .st 4 (.t 9) (.t 31)⟩]) (.seq (.rg [⟨some 33, none, .mv (.t 0)⟩, ⟨some 34, none, .fa 0 (.t 9)⟩, ⟨some 35, none, .ld 1 false (.t 34)⟩, ⟨some 36, none, .call 19 [.t 33, .t 35]⟩, ⟨some 32, none, .mv (.t 36)⟩, ⟨some 37, none, .ext 0 (.t 32)⟩, ⟨some 38, none, .ext 1 (.t 32)⟩, ⟨some 10, none, .alloc [.int .i64 0, .int .i64 0, .int .u8 0, .str ⟨#[]⟩, .bool false] 46⟩, ⟨none, none, .st 5 (.t 10) (.t 37)⟩, ⟨some 11, none, .mv (.t 38)⟩]) (.block 2 (.seq (.rg [⟨some 40, none, .mv (.t 11)⟩, ⟨some 41, none, .bin .neq .leaf (.t 40) (.k (.int .i64 0))⟩, ⟨some 39, none, .mv (.t 41)⟩]) (.cond (.t 39) (.seq (.rg [⟨some 42, none, .mv (.t 11)⟩, ⟨some 4, none, .mv (.t 42)⟩]) .ret) (.seq (.rg [⟨some 44, none, .fa 4 (.t 10)⟩, ⟨some 45, none, .ld 1 false (.t 44)⟩, ⟨some 46, none, .mv (.t 45)⟩, ⟨some 47, some (46, false), .mv (.t 0)⟩, ⟨some 48, some (46, false), .fa 0 (.t 9)⟩, ⟨some 49, some (46, false), .ld 1 false (.t 48)⟩, ⟨some 50, some (46, false), .call 21 [.t 47, .t 49]⟩, ⟨some 51, some (46, false), .un .not (.t 50)⟩, ⟨some 52, none, .pick (.t 46) (.k (.bool true)) (.t 51)⟩, ⟨some 43, none, .mv (.t 52)⟩]) (.cond (.t 43) (.seq (.rg [⟨some 4, none, .mv (.k (.int .i64 9))⟩]) .ret) .skip)))))))) (.rg [⟨some 53, none, .bin .add .leaf (.t 28) (.k (.int .i64 1))⟩, ⟨some 28, none, .mv (.t 53)⟩]))))))) (.seq (.rg [⟨some 4, none, .mv (.k (.int .i64 0))⟩]) .ret))))⟩ := by kernel_rfl
theorem c33 : cFun E0.P 33 = some ⟨47, [(4, none)], .seq (.rg [⟨some 3, none, .box (.t 1) 39⟩, ⟨some 4, none, .mv (.k (.int .i64 0))⟩]) (.seq (.rg [⟨some 8, none, .ld 4 true (.t 3)⟩, ⟨some 9, none, .call 32 [.t 8]⟩, ⟨some 5, none, .mv (.t 9)⟩]) (.seq (.seq (.rg [⟨some 6, none, .mv (.k (.int .i64 0))⟩]) (.block 0 (.loop (.seq (.seq (.rg [⟨some 10, none, .mv (.t 6)⟩, ⟨some 11, none, .fa 3 (.t 3)⟩, ⟨some 12, none, .ld 1 false (.t 11)⟩, ⟨some 13, none, .len 1 (.t 12)⟩, ⟨some 14, none, .bin .lss .leaf (.t 10) (.t 13)⟩, ⟨some 15, none, .mv (.t 14)⟩, ⟨some 16, some (15, true), .mv (.t 5)⟩, ⟨some 17, some (15, true), .bin .eql .leaf (.t 16) (.k (.int .i64 0))⟩, ⟨some 18, none, .pick (.t 15) (.t 17) (.k (.bool false))⟩]) (.cond (.t 18) .skip (.exit 0))) (.seq (.block 1 (.seq (.rg [⟨some 21, none, .mv (.t 0)⟩, ⟨some 22, none, .fa 3 (.t 3)⟩, ⟨some 23, none, .ld 1 false (.t 22)⟩, ⟨some 24, none, .mv (.t 6)⟩, ⟨some 25, none, .ia 4 (.t 23) (.t 24)⟩, ⟨some 26, none, .fa 0 (.t 25)⟩, ⟨some 27, none, .ld 1 false (.t 26)⟩, ⟨some 28, none, .call 70 [.t 21, .t 27]⟩, ⟨some 7, none, .mv (.t 28)⟩]) (.seq (.rg [⟨some 29, none, .mv (.t 7)⟩, ⟨some 30, none, .bin .lss .leaf (.t 29) (.k (.int .i64 0))⟩]) (.cond (.t 30) (.rg [⟨some 5, none, .mv (.k (.int .i64 7))⟩]) (.seq (.rg [⟨some 31, none, .mv (.t 0)⟩, ⟨some 32, none, .mv (.t 7)⟩, ⟨some 33, none, .ia 5 (.t 31) (.t 32)⟩, ⟨some 34, none, .fa 4 (.t 33)⟩, ⟨some 35, none, .ld 1 false (.t 34)⟩, ⟨some 36, none, .mv (.t 35)⟩, ⟨some 37, some (36, false), .mv (.t 0)⟩, ⟨some 38, some (36, false), .mv (.t 0)⟩, ⟨some 39, some (36, false), .mv (.t 7)⟩, ⟨some 40, some (36, false), .ia 5 (.t 38) (.t 39)⟩, ⟨some 41, some (36, false), .fa 0 (.t 40)⟩, ⟨some 42, some (36, false), .ld 1 false (.t 41)⟩, ⟨some 43, some (36, false), .call 71 [.t 37, .t 42]⟩, ⟨some 44, some (36, false), .un .not (.t 43)⟩, ⟨some 45, none, .pick (.t 36) (.k (.bool true)) (.t 44)⟩]) (.cond (.t 45) (.rg [⟨some 5, none, .mv (.k (.int .i64 9))⟩]) .skip)))))) (.rg [⟨some 19, none, .mv (.t 6)⟩, ⟨some 20, none, .bin .add .leaf (.t 19) (.k (.int .i64 1))⟩, ⟨some 6, none, .mv (.t 20)⟩])))))) (.seq (.rg [⟨some 46, none, .mv (.t 5)⟩, ⟨some 4, none, .mv (.t 46)⟩]) .ret)))⟩ := by kernel_rfl
theorem c16 : cFun E0.P 16 = some ⟨41, [(2, none)], .seq (.rg [⟨some 2, none, .mv (.k .nilp)⟩]) (.seq (.rg [⟨some 7, none, .call 51 []⟩, ⟨some 3, none, .mv (.t 7)⟩]) (.seq (.rg [⟨some 8, none, .call 52 []⟩, ⟨some 4, none, .mv (.t 8)⟩]) (.seq (.seq (.rg [⟨some 5, none, .mv (.k (.int .i64 0))⟩]) (.block 0 (.loop (.seq (.seq (.rg [⟨some 9, none, .mv (.t 5)⟩, ⟨some 10, none, .mv (.t 4)⟩, ⟨some 11, none, .len 1 (.t 10)⟩, ⟨some 12, none, .bin .lss .leaf (.t 9) (.t 11)⟩]) (.cond (.t 12) .skip (.exit 0))) (.seq (.block 1 (.rg [⟨some 15, none, .mv (.t 3)⟩, ⟨some 16, none, .mv (.t 4)⟩, ⟨some 17, none, .mv (.t 5)⟩, ⟨some 18, none, .ia 5 (.t 16) (.t 17)⟩, ⟨some 19, none, .ld 5 true (.t 18)⟩, ⟨some 20, none, .call 53 [.t 15, .t 19]⟩])) (.rg [⟨some 13, none, .mv (.t 5)⟩, ⟨some 14, none, .bin .add .leaf (.t 13) (.k (.int .i64 1))⟩, ⟨some 5, none, .mv (.t 14)⟩])))))) (.seq (.seq (.rg [⟨some 6, none, .mv (.k (.int .i64 0))⟩]) (.block 2 (.loop (.seq (.seq (.rg [⟨some 21, none, .mv (.t 6)⟩, ⟨some 22, none, .mv (.t 0)⟩, ⟨some 23, none, .len 1 (.t 22)⟩, ⟨some 24, none, .bin .lss .leaf (.t 21) (.t 23)⟩]) (.cond (.t 24) .skip (.exit 2))) (.seq (.block 3 (.seq (.rg [⟨some 27, none, .mv (.t 0)⟩, ⟨some 28, none, .mv (.t 6)⟩, ⟨some 29, none, .ia 5 (.t 27) (.t 28)⟩, ⟨some 30, none, .fa 3 (.t 29)⟩, ⟨some 31, none, .ld 1 false (.t 30)⟩, ⟨some 32, none, .len 0 (.t 31)⟩, ⟨some 33, none, .bin .leq .leaf (.t 32) (.k (.int .i64 200))⟩]) (.cond (.t 33) (.rg [⟨some 34, none, .mv (.t 3)⟩, ⟨some 35, none, .mv (.t 0)⟩, ⟨some 36, none, .mv (.t 6)⟩, ⟨some 37, none, .ia 5 (.t 35) (.t 36)⟩, ⟨some 38, none, .ld 5 true (.t 37)⟩, ⟨some 39, none, .call 53 [.t 34, .t 38]⟩]) .skip))) (.rg [⟨some 25, none, .mv (.t 6)⟩, ⟨some 26, none, .bin .add .leaf (.t 25) (.k (.int .i64 1))⟩, ⟨some 6, none, .mv (.t 26)⟩])))))) (.seq (.rg [⟨some 40, none, .mv (.t 3)⟩, ⟨some 2, none, .mv (.t 40)⟩]) .ret)))))⟩ := by kernel_rfl

abbrev AcL := List Go.KL.Ytogpeefldehnkaa.Ac
/-- is an account a leaf? -/
def lfQ (ql : AcL) (c : Int) : Bool := decide ((undL ql c ql).length = 1)
def onL (ql : AcL) : List Ln → Int
  | [] => 0
  | x :: r => match look ql x.acc with
    | none => 7
    | some a => if a.sh = true ∨ lfQ ql x.acc = false then 9 else onL ql r
def onN (ql : AcL) (e : Ent) : Int := if e.chk = 0 then onL ql e.L else e.chk
theorem onL_at {ql : AcL} {L : List Ln} {i : Nat} (hi : i < L.length) : onL ql (L.drop i) = match look ql (L[i]!).acc with
    | none => 7
    | some a => if a.sh = true ∨ lfQ ql (L[i]!).acc = false then 9 else onL ql (L.drop (i + 1)) := by
  rw [List.drop_eq_getElem_cons hi, ← getElem!_pos L i hi]; rfl
theorem on_nil (e : Ent) : Pure 18 [.nilp, e.d] (.int .i64 1) := by
  intro S tk
  refine ACalls.fgo c18 rfl fun hS => ?_
  repeat' first | with_reducible refine fzD_ite (fun q => ?_) (fun q => ?_) | ((try conv => whnf); first
    | refine bs_d (fun q => ?_) (fun q => ?_)
    | refine bs_n ?_
    | refine bs_i (fun q => ?_) (fun q => ?_)
    | refine ck (by first | rfl | simp) rfl (get_nil 0) ?_
    | refine cq (get_nil 0) ?_
    | refine eqk rfl ?_
    | refine ffin _ rfl rfl hS (Sub.refl _) rfl ⟨?_, rfl, rfl⟩)
  all_goals rfl
section
variable {cid mid : Nat} {S : List O} {tk : Tks} {o : O} {ql : AcL}
theorem on_c (hch : Ch (look ql) o) (hc : S[cid]? = some (.arr [.map mid])) (hm : S[mid]? = some o) (hok : OkQ ql) (hl : ql.length < 1000000) (e : Ent) (hR : e.R) :
    ACalls E0 18 [.po cid 0, e.d] S tk (fun r S' tk' => r = .int .i64 (onN ql e) ∧ S' = S ∧ tk' = tk) := by
  have hLl : (ql.map Ac.code).length < 1000000 := by rw [List.length_map]; exact hl
  have hlen := lns_len e.L
  have hck := Check e hR
  have hcl : cid < S.length := (List.getElem?_eq_some_iff.1 hc).1
  have gt := fun (k : Int) (J : List O) (tk : Tks) => get_c (S := S ++ J) (tk := tk) hch (at_old hc) (at_old hm) k
  have lf := fun (k : Int) (J : List O) (tk : Tks) => leaf_c (S := S ++ J) (tk := tk) hch (at_old hc) (at_old hm) hok.keys hLl k (hok.und hl k)
  have g0 := gt 0
  rw [show getF (look ql) 0 = .tup [.agg noAc.cs, .int .i64 7] by rw [getF, hok.zero]; rfl] at g0
  by_cases h0 : e.chk = 0
  rotate_left
  · rw [onN, if_neg h0]
    refine ACalls.fgo c18 rfl fun hS => ?_
    repeat' first | with_reducible refine fzD_ite (fun q => ?_) (fun q => ?_) | ((try conv => whnf); first
      | refine bs_f (decide_eq_false h0) ?_
      | refine bs_d (fun q => ?_) (fun q => ?_)
      | refine bs_n ?_
      | refine bs_i (fun q => ?_) (fun q => ?_)
      | refine ck (by first | rfl | simp) rfl (hck) ?_
      | refine cq (hck) ?_
      | refine ckA rfl rfl (g0 _ _) ?_
      | refine eqk rfl ?_
      | refine ffin _ rfl rfl hS (Sub.refl _) rfl ⟨?_, rfl, rfl⟩)
    all_goals rfl
  rw [onN, if_pos h0]
  rw [h0] at hck
  obtain ⟨h1, h2, h3⟩ := Ent.chk_0 h0
  unfold Ent.hd at h1
  refine ACalls.fgo c18 rfl fun hS => ?_
  repeat' first | with_reducible refine fzD_ite (fun q => ?_) (fun q => ?_) | ((try conv => whnf); first
    | refine bs_d (fun q => ?_) (fun q => ?_)
    | refine bs_n ?_
    | refine bs_i (fun q => ?_) (fun q => ?_)
    | refine ck (by first | rfl | simp) rfl (hck) ?_
    | refine cq (hck) ?_
    | refine ckA rfl rfl (g0 _ _) ?_
    | refine eqk rfl ?_
    | refine ffin _ rfl rfl hS (Sub.refl _) rfl ⟨?_, rfl, rfl⟩)
  conv => whnf
  refine floop (α := Nat) rfl rfl hS (fun i => i ≤ e.L.length ∧ onL ql e.L = onL ql (e.L.drop i)) (fun i => e.L.length - i) (fun i => [(28, .d (.int .i64 i)), (27, .d (.int .i64 e.L.length)), (26, .d (.sl (lns e.L))), (0, .d (.po cid 0))]) (fun _ => []) (fun _ => []) 0 ⟨Nat.zero_le _, rfl⟩ (fstep_drop (J' := []) (Jx := [_, _]) (TK' := []) (TKx := []) rfl rfl ⟨Sub.refl _, Sub.int (by rw [hlen]), Sub.refl _, Sub.refl _, trivial⟩ (by simp [frD, FD.to, frSc, D.sc, scLL_lns, hcl]) rfl) ?_
  rintro i ⟨hi, hp⟩
  by_cases hlt : i < e.L.length
  · rw [hp, onL_at hlt]
    have gx := gt (e.L[i]!).acc
    have lx := lf (e.L[i]!).acc
    cases hx : look ql (e.L[i]!).acc with
    | none =>
      rw [show getF (look ql) (e.L[i]!).acc = .tup [.agg noAc.cs, .int .i64 7] by rw [getF, hx]; rfl] at gx
      repeat' first | with_reducible refine fzD_ite (fun q => ?_) (fun q => ?_) | ((try conv => whnf); first
        | refine bs_t (decide_eq_true (by omega)) ?_
        | refine bs_d (fun q => ?_) (fun q => ?_)
        | refine bs_n ?_
        | refine bs_i (fun q => ?_) (fun q => ?_)
        | refine pK_i (iaD_ln (i := i) rfl hlt) ?_
        | refine ckA rfl rfl (gx _ _) ?_
        | refine eqk rfl ?_
        | refine ffin _ rfl rfl hS (Sub.refl _) rfl ⟨?_, rfl, rfl⟩)
      all_goals rfl
    | some a =>
      rw [show getF (look ql) (e.L[i]!).acc = .tup [.agg a.cs, .int .i64 0] by rw [getF, hx]; rfl] at gx
      simp only
      change ∀ J tk, ACalls _ _ _ _ _ (fun r S' tk' => r = .bool (lfQ ql (e.L[i]!).acc) ∧ S' = _ ∧ tk' = tk) at lx
      cases hsh : a.sh with
      | true =>
        rw [if_pos (.inl rfl)]
        repeat' first | with_reducible refine fzD_ite (fun q => ?_) (fun q => ?_) | ((try conv => whnf); first
          | refine bs_t (decide_eq_true (by omega)) ?_
          | refine bs_d (fun q => ?_) (fun q => ?_)
          | refine bs_n ?_
          | refine bs_i (fun q => ?_) (fun q => ?_)
          | refine pK_i (iaD_ln (i := i) rfl hlt) ?_
          | (refine ckA rfl rfl (gx _ _) ?_; rw [show a.cs = [.int .i64 a.code, .int .i64 a.up, .int .u8 a.cl, .str a.nm, .bool true] by rw [← hsh]; rfl])
          | refine eqk rfl ?_
          | refine ffin _ rfl rfl hS (Sub.refl _) rfl ⟨?_, rfl, rfl⟩)
        all_goals rfl
      | false =>
        cases hlf : lfQ ql (e.L[i]!).acc with
        | false =>
          rw [hlf] at lx
          rw [if_pos (.inr rfl)]
          repeat' first | with_reducible refine fzD_ite (fun q => ?_) (fun q => ?_) | ((try conv => whnf); first
            | refine bs_t (decide_eq_true (by omega)) ?_
            | refine bs_d (fun q => ?_) (fun q => ?_)
            | refine bs_n ?_
            | refine bs_i (fun q => ?_) (fun q => ?_)
            | refine pK_i (iaD_ln (i := i) rfl hlt) ?_
            | (refine ckA rfl rfl (gx _ _) ?_; rw [show a.cs = [.int .i64 a.code, .int .i64 a.up, .int .u8 a.cl, .str a.nm, .bool false] by rw [← hsh]; rfl])
            | refine ckA rfl rfl (lx _ _) ?_
            | refine eqk rfl ?_
            | refine ffin _ rfl rfl hS (Sub.refl _) rfl ⟨?_, rfl, rfl⟩)
          all_goals rfl
        | true =>
          rw [hlf] at lx
          rw [if_neg (by simp)]
          repeat' first | with_reducible refine fzD_ite (fun q => ?_) (fun q => ?_) | ((try conv => whnf); first
            | refine bs_t (decide_eq_true (by omega)) ?_
            | refine bs_d (fun q => ?_) (fun q => ?_)
            | refine bs_n ?_
            | refine bs_i (fun q => ?_) (fun q => ?_)
            | refine pK_i (iaD_ln (i := i) rfl hlt) ?_
            | (refine ckA rfl rfl (gx _ _) ?_; rw [show a.cs = [.int .i64 a.code, .int .i64 a.up, .int .u8 a.cl, .str a.nm, .bool false] by rw [← hsh]; rfl])
            | refine ckA rfl rfl (lx _ _) ?_
            | refine eqk rfl ?_
            | refine ffin _ rfl rfl hS (Sub.refl _) rfl ⟨?_, rfl, rfl⟩)
          conv => whnf
          exact fnext (α := Nat) (i + 1) ⟨by omega, rfl⟩ (by omega) (fstep_drop (J' := []) (Jx := [_, _]) (TK' := []) (TKx := []) rfl rfl ⟨Sub.int (by first | rfl | omega | (refine Int.sub_eq_zero.mp ?_; simp (disch := ((try unfold I64); omega)) only [wi64_id, td]; omega)), Sub.refl _, Sub.refl _, Sub.refl _, trivial⟩ (by simp [frD, FD.to, frSc, D.sc, scLL_lns, hcl]) rfl)
  · rw [hp, List.drop_of_length_le (by omega)]
    repeat' first | with_reducible refine fzD_ite (fun q => ?_) (fun q => ?_) | ((try conv => whnf); first
      | refine bs_f (decide_eq_false (by omega)) ?_
      | refine bs_d (fun q => ?_) (fun q => ?_)
      | refine bs_n ?_
      | refine bs_i (fun q => ?_) (fun q => ?_)
      | refine eqk rfl ?_
      | refine ffin _ rfl rfl hS (Sub.refl _) rfl ⟨?_, rfl, rfl⟩)
    all_goals rfl
end
structure OnS where
  i : Nat
  f : Int
theorem rOn (ql : AcL) (hok : OkQ ql) (hl : ql.length < 1000000) (e : Ent) (hR : e.R) : Pure 33 [.sl (acsL ql), e.d] (.int .i64 (onN ql e)) := by
  intro S tk
  have hlen := lns_len e.L
  have hck := rCheck e hR
  by_cases h0 : e.chk = 0
  rotate_left
  · rw [onN, if_neg h0]
    refine ACalls.fgo c33 rfl fun hS => ?_
    repeat' first | with_reducible refine fzD_ite (fun q => ?_) (fun q => ?_) | ((try conv => whnf); first
      | refine bs_d (fun q => ?_) (fun q => ?_)
      | refine bs_n ?_
      | refine bs_i (fun q => ?_) (fun q => ?_)
      | refine ck (by first | rfl | simp) rfl (hck) ?_
      | refine cq (hck) ?_
      | refine eqk rfl ?_
      | refine ffin _ rfl rfl hS (Sub.refl _) rfl ⟨?_, rfl, rfl⟩)
    refine floop (α := Nat) rfl rfl hS (fun _ => True) (fun _ => 0) (fun _ => [(6, .d (.int .i64 0)), (5, .d (.int .i64 e.chk)), (3, .lp 0 0)]) (fun _ => [.arr [.int .i64 e.day, .int .u8 e.kind, .int .u64 e.src, .sl (lns e.L)]]) (fun _ => []) 0 trivial (fstep_sub ⟨Sub.refl _, Sub.refl _, Sub.refl _, trivial⟩) ?_
    intro _ _
    repeat' first | with_reducible refine fzD_ite (fun q => ?_) (fun q => ?_) | ((try conv => whnf); first
      | refine bs_f (decide_eq_false h0) ?_
      | refine bs_d (fun q => ?_) (fun q => ?_)
      | refine bs_n ?_
      | refine bs_i (fun q => ?_) (fun q => ?_)
      | refine eqk rfl ?_
      | refine ffin _ rfl rfl hS (Sub.refl _) rfl ⟨?_, rfl, rfl⟩)
    all_goals first | rfl | (exfalso; omega)
  rw [onN, if_pos h0]
  rw [h0] at hck
  obtain ⟨h1, h2, h3⟩ := Ent.chk_0 h0
  unfold Ent.hd at h1
  refine ACalls.fgo c33 rfl fun hS => ?_
  repeat' first | with_reducible refine fzD_ite (fun q => ?_) (fun q => ?_) | ((try conv => whnf); first
    | refine bs_d (fun q => ?_) (fun q => ?_)
    | refine bs_n ?_
    | refine bs_i (fun q => ?_) (fun q => ?_)
    | refine ck (by first | rfl | simp) rfl (hck) ?_
    | refine cq (hck) ?_
    | refine eqk rfl ?_
    | refine ffin _ rfl rfl hS (Sub.refl _) rfl ⟨?_, rfl, rfl⟩)
  refine floop (α := OnS) rfl rfl hS (fun s => s.i ≤ e.L.length ∧ (s.f = 0 ∧ onL ql e.L = onL ql (e.L.drop s.i) ∨ s.f ≠ 0 ∧ onL ql e.L = s.f)) (fun s => e.L.length - s.i) (fun s => [(6, .d (.int .i64 s.i)), (5, .d (.int .i64 s.f)), (3, .lp 0 0), (0, .d (.sl (acsL ql)))]) (fun _ => [.arr [.int .i64 e.day, .int .u8 e.kind, .int .u64 e.src, .sl (lns e.L)]]) (fun _ => []) ⟨0, 0⟩ ⟨Nat.zero_le _, .inl ⟨rfl, rfl⟩⟩ (fstep_sub ⟨Sub.refl _, Sub.refl _, Sub.refl _, Sub.refl _, trivial⟩) ?_
  rintro ⟨i, f⟩ ⟨hi, hp⟩
  simp only at hi hp ⊢
  by_cases hlt : i < e.L.length
  rotate_left
  · have hend : onL ql e.L = f := by
      rcases hp with ⟨rfl, hp⟩ | ⟨_, hp⟩
      · rw [hp, List.drop_of_length_le (by omega)]; rfl
      · exact hp
    rw [hend]
    repeat' first | with_reducible refine fzD_ite (fun q => ?_) (fun q => ?_) | ((try conv => whnf); first
      | refine bs_f (decide_eq_false (show ¬ (i : Int) < (lns e.L).length by omega)) ?_
      | refine bs_d (fun q => ?_) (fun q => ?_)
      | refine bs_n ?_
      | refine bs_i (fun q => ?_) (fun q => ?_)
      | refine eqk rfl ?_
      | refine ffin _ rfl rfl hS (Sub.refl _) rfl ⟨?_, rfl, rfl⟩)
    all_goals rfl
  rcases hp with ⟨rfl, hp⟩ | ⟨hf, hp⟩
  rotate_left
  · rw [hp]
    repeat' first | with_reducible refine fzD_ite (fun q => ?_) (fun q => ?_) | ((try conv => whnf); first
      | refine bs_t (decide_eq_true (show (i : Int) < (lns e.L).length by omega)) ?_
      | refine bs_f (decide_eq_false hf) ?_
      | refine bs_d (fun q => ?_) (fun q => ?_)
      | refine bs_n ?_
      | refine bs_i (fun q => ?_) (fun q => ?_)
      | refine eqk rfl ?_
      | refine ffin _ rfl rfl hS (Sub.refl _) rfl ⟨?_, rfl, rfl⟩)
    all_goals rfl
  have ap := at_p ql (e.L[i]!).acc hl
  have lp := leaf_p ql hl hok.low (e.L[i]!).acc
  change Pure _ _ (.bool (lfQ ql (e.L[i]!).acc)) at lp
  have st := onL_at (ql := ql) hlt
  rcases atI_cases ql (e.L[i]!).acc with ⟨h3, h4⟩ | ⟨k, a, h3, h4, h5, h6, h7⟩
  · rw [h4] at ap
    rw [h3] at st
    repeat' first | with_reducible refine fzD_ite (fun q => ?_) (fun q => ?_) | ((try conv => whnf); first
      | refine bs_t (decide_eq_true (show (i : Int) < (lns e.L).length by omega)) ?_
      | refine bs_d (fun q => ?_) (fun q => ?_)
      | refine bs_n ?_
      | refine bs_i (fun q => ?_) (fun q => ?_)
      | refine pK_i (iaD_ln (i := i) rfl hlt) ?_
      | refine ck (by first | rfl | simp) rfl (ap) ?_
      | refine cq (ap) ?_
      | refine eqk rfl ?_
      | refine ffin _ rfl rfl hS (Sub.refl _) rfl ⟨?_, rfl, rfl⟩)
    conv => whnf
    exact fnext (α := OnS) ⟨i + 1, 7⟩ ⟨by simp only; omega, .inr ⟨show (7 : Int) ≠ 0 by decide, by rw [hp, st]⟩⟩ (by simp only; omega) (fstep_sub ⟨Sub.int (by first | rfl | omega | (refine Int.sub_eq_zero.mp ?_; simp (disch := ((try unfold I64); omega)) only [wi64_id, td]; omega)), Sub.refl _, Sub.refl _, Sub.refl _, trivial⟩)
  · rw [h4] at ap
    rw [h6] at st
    simp only at st
    have ik := iaD_ac (l := ql) (i := k) (n := (k : Int)) rfl h3
    rw [show ql[k]! = a by rw [getElem!_pos ql k h3]; rw [List.getElem?_eq_getElem h3] at h5; exact Option.some.inj h5] at ik
    rw [← h7] at lp
    cases hsh : a.sh with
    | true =>
      rw [if_pos (.inl hsh)] at st
      rw [show a.cs = [.int .i64 a.code, .int .i64 a.up, .int .u8 a.cl, .str a.nm, .bool true] by rw [← hsh]; rfl] at ik
      repeat' first | with_reducible refine fzD_ite (fun q => ?_) (fun q => ?_) | ((try conv => whnf); first
        | refine bs_t (decide_eq_true (show (i : Int) < (lns e.L).length by omega)) ?_
        | refine bs_f (decide_eq_false (show ¬ (k : Int) < 0 by omega)) ?_
        | refine bs_d (fun q => ?_) (fun q => ?_)
        | refine bs_n ?_
        | refine bs_i (fun q => ?_) (fun q => ?_)
        | refine pK_i (iaD_ln (i := i) rfl hlt) ?_
        | refine ck (by first | rfl | simp) rfl (ap) ?_
        | refine cq (ap) ?_
        | refine pK_i ik ?_
        | refine eqk rfl ?_
        | refine ffin _ rfl rfl hS (Sub.refl _) rfl ⟨?_, rfl, rfl⟩)
      conv => whnf
      exact fnext (α := OnS) ⟨i + 1, 9⟩ ⟨by simp only; omega, .inr ⟨show (9 : Int) ≠ 0 by decide, by rw [hp, st]⟩⟩ (by simp only; omega) (fstep_sub ⟨Sub.int (by first | rfl | omega | (refine Int.sub_eq_zero.mp ?_; simp (disch := ((try unfold I64); omega)) only [wi64_id, td]; omega)), Sub.refl _, Sub.refl _, Sub.refl _, trivial⟩)
    | false =>
      rw [show a.cs = [.int .i64 a.code, .int .i64 a.up, .int .u8 a.cl, .str a.nm, .bool false] by rw [← hsh]; rfl] at ik
      cases hlf : lfQ ql (e.L[i]!).acc with
      | false =>
        rw [if_pos (.inr hlf)] at st
        rw [← h7] at hlf
        rw [hlf] at lp
        repeat' first | with_reducible refine fzD_ite (fun q => ?_) (fun q => ?_) | ((try conv => whnf); first
          | refine bs_t (decide_eq_true (show (i : Int) < (lns e.L).length by omega)) ?_
          | refine bs_f (decide_eq_false (show ¬ (k : Int) < 0 by omega)) ?_
          | refine bs_d (fun q => ?_) (fun q => ?_)
          | refine bs_n ?_
          | refine bs_i (fun q => ?_) (fun q => ?_)
          | refine pK_i (iaD_ln (i := i) rfl hlt) ?_
          | refine ck (by first | rfl | simp) rfl (ap) ?_
          | refine cq (ap) ?_
          | refine pK_i ik ?_
          | refine ck (by first | rfl | simp) rfl (lp) ?_
          | refine cq (lp) ?_
          | refine eqk rfl ?_
          | refine ffin _ rfl rfl hS (Sub.refl _) rfl ⟨?_, rfl, rfl⟩)
        conv => whnf
        exact fnext (α := OnS) ⟨i + 1, 9⟩ ⟨by simp only; omega, .inr ⟨show (9 : Int) ≠ 0 by decide, by rw [hp, st]⟩⟩ (by simp only; omega) (fstep_sub ⟨Sub.int (by first | rfl | omega | (refine Int.sub_eq_zero.mp ?_; simp (disch := ((try unfold I64); omega)) only [wi64_id, td]; omega)), Sub.refl _, Sub.refl _, Sub.refl _, trivial⟩)
      | true =>
        rw [if_neg (by rw [hsh, hlf]; simp)] at st
        rw [← h7] at hlf
        rw [hlf] at lp
        repeat' first | with_reducible refine fzD_ite (fun q => ?_) (fun q => ?_) | ((try conv => whnf); first
          | refine bs_t (decide_eq_true (show (i : Int) < (lns e.L).length by omega)) ?_
          | refine bs_f (decide_eq_false (show ¬ (k : Int) < 0 by omega)) ?_
          | refine bs_d (fun q => ?_) (fun q => ?_)
          | refine bs_n ?_
          | refine bs_i (fun q => ?_) (fun q => ?_)
          | refine pK_i (iaD_ln (i := i) rfl hlt) ?_
          | refine ck (by first | rfl | simp) rfl (ap) ?_
          | refine cq (ap) ?_
          | refine pK_i ik ?_
          | refine ck (by first | rfl | simp) rfl (lp) ?_
          | refine cq (lp) ?_
          | refine eqk rfl ?_
          | refine ffin _ rfl rfl hS (Sub.refl _) rfl ⟨?_, rfl, rfl⟩)
        conv => whnf
        exact fnext (α := OnS) ⟨i + 1, 0⟩ ⟨by simp only; omega, .inl ⟨rfl, by rw [hp, st]⟩⟩ (by simp only; omega) (fstep_sub ⟨Sub.int (by first | rfl | omega | (refine Int.sub_eq_zero.mp ?_; simp (disch := ((try unfold I64); omega)) only [wi64_id, td]; omega)), Sub.refl _, Sub.refl _, Sub.refl _, trivial⟩)

/-! ## a chart of the standard accounts -/
def stepQ (ql : AcL) (a : Go.KL.Ytogpeefldehnkaa.Ac) : AcL := addR ql (dep (look ql) a.up) a
def stepN (ql : AcL) (a : Go.KL.Ytogpeefldehnkaa.Ac) : AcL := if a.nm.size ≤ 200 then stepQ ql a else ql
def stdQ (more : AcL) : AcL := more.foldl stepN (stdA.foldl stepQ [])
theorem step_ok {ql : AcL} (h : OkQ ql) (a : Go.KL.Ytogpeefldehnkaa.Ac) : OkQ (stepQ ql a) ∧ (stepQ ql a).length ≤ ql.length + 1 := (add_next h (h.low.ends _)).1
theorem fold_ok : ∀ (l : AcL) {ql : AcL}, OkQ ql → OkQ (l.foldl stepQ ql) ∧ (l.foldl stepQ ql).length ≤ ql.length + l.length
  | [], ql, h => ⟨h, Nat.le_refl _⟩
  | a :: l, ql, h => by
    obtain ⟨h1, h2⟩ := step_ok h a
    obtain ⟨h3, h4⟩ := fold_ok l h1
    exact ⟨h3, by rw [List.foldl_cons, List.length_cons]; omega⟩
theorem fold_okN : ∀ (l : AcL) {ql : AcL}, OkQ ql → OkQ (l.foldl stepN ql) ∧ (l.foldl stepN ql).length ≤ ql.length + l.length
  | [], ql, h => ⟨h, Nat.le_refl _⟩
  | a :: l, ql, h => by
    have h1 : OkQ (stepN ql a) ∧ (stepN ql a).length ≤ ql.length + 1 := by
      unfold stepN; split
      · exact step_ok h a
      · exact ⟨h, by omega⟩
    obtain ⟨h3, h4⟩ := fold_okN l h1.1
    exact ⟨h3, by rw [List.foldl_cons, List.length_cons]; omega⟩
theorem std_ok0 : OkQ (stdA.foldl stepQ []) ∧ (stdA.foldl stepQ []).length ≤ 6 := by
  obtain ⟨h1, h2⟩ := fold_ok stdA ok_nil
  exact ⟨h1, by simpa using h2⟩
theorem stdQ_ok (more : AcL) : OkQ (stdQ more) ∧ (stdQ more).length ≤ more.length + 6 := by
  obtain ⟨h1, h2⟩ := std_ok0
  obtain ⟨h3, h4⟩ := fold_okN more h1
  exact ⟨h3, by unfold stdQ; omega⟩
structure StS where
  i : Nat
  o : O
set_option maxHeartbeats 1000000 in
theorem standard_n (more : AcL) (hml : more.length < 100000) (S : List O) (tk : Tks) :
    ACalls E0 16 [.sl (acsL more)] S tk (fun r S' tk' => ∃ o, (r = .po (S.length + 1) 0 ∧ Ch (look (stdQ more)) o) ∧ S' = S ++ [o, .arr [.map S.length]] ∧ tk' = tk) := by
  have hlen := acsL_len more
  refine ACalls.fgo c16 rfl fun hS => ?_
  repeat' first | with_reducible refine fzD_ite (fun q => ?_) (fun q => ?_) | ((try conv => whnf); first
    | refine bs_d (fun q => ?_) (fun q => ?_)
    | refine bs_n ?_
    | refine bs_i (fun q => ?_) (fun q => ?_)
    | refine ck (by first | rfl | simp) rfl (std1) ?_
    | refine cq (std1) ?_
    | refine ckN (d := .po (S.length + 1) 0) (Jn := [.map ktI (entKv []) 0, .arr [.map S.length]]) rfl rfl (by have := new_at S tk; rw [List.append_nil, List.append_nil]; exact this) ?_
    | refine eqk rfl ?_
    | refine ffin _ rfl rfl hS (Sub.refl _) rfl ⟨?_, rfl, rfl⟩)
  refine floop (α := StS) rfl rfl hS (fun s => s.i ≤ 6 ∧ Ch (look ((stdA.take s.i).foldl stepQ [])) s.o) (fun s => 6 - s.i) (fun s => [(5, .d (.int .i64 s.i)), (4, .d (.sl (acsL stdA))), (3, .d (.po (S.length + 1) 0)), (0, .d (.sl (acsL more)))]) (fun s => [s.o, .arr [.map S.length]]) (fun _ => []) ⟨0, .map ktI (entKv []) 0⟩ ⟨Nat.zero_le _, ch_new⟩ (fstep_sub ⟨Sub.refl _, Sub.refl _, Sub.refl _, Sub.refl _, trivial⟩) ?_
  rintro ⟨i, o⟩ ⟨hi, hch⟩
  simp only at hi hch ⊢
  by_cases hlt : i < 6
  · obtain ⟨hok, hql⟩ := fold_ok (stdA.take i) ok_nil
    have he := hok.low.ends (stdA[i]!).up
    obtain ⟨_, chA⟩ := add_next (a := stdA[i]!) hok he
    have hd := add_hd (a := stdA[i]!) hok he
    have hn : dep (look ((stdA.take i).foldl stepQ [])) (stdA[i]!).up < 1000000 := by have := depF_le (look ((stdA.take i).foldl stepQ [])) 8 (stdA[i]!).up; unfold dep; omega
    have hnx : (stdA.take (i + 1)).foldl stepQ [] = addR ((stdA.take i).foldl stepQ []) (dep (look ((stdA.take i).foldl stepQ [])) (stdA[i]!).up) stdA[i]! := by
      rw [Go.KL.Ytogpeefldehnkaa.take_snA (show i < stdA.length from hlt), List.foldl_append]; rfl
    repeat' first | with_reducible refine fzD_ite (fun q => ?_) (fun q => ?_) | ((try conv => whnf); first
      | refine bs_t (decide_eq_true (show (i : Int) < (acsL stdA).length by rw [acsL_len]; simp; omega)) ?_
      | refine bs_d (fun q => ?_) (fun q => ?_)
      | refine bs_n ?_
      | refine bs_i (fun q => ?_) (fun q => ?_)
      | refine pK_i (iaD_ac (l := stdA) (i := i) rfl hlt) ?_
      | (refine ckJE (k := 0) (ds' := [.po (S.length + 1) 0, acD stdA[i]!]) rfl rfl (add_c (cid := S.length + 1) (mid := S.length + 0) (f := look ((stdA.take i).foldl stepQ [])) hch (at_own rfl rfl) (at_own (k := 0) rfl rfl) stdA[i]! _ hn hd) (SubL.refl _) ?_; rintro r o2 ⟨rfl, ch2⟩; skip)
      | refine eqk rfl ?_
      | refine ffin _ rfl rfl hS (Sub.refl _) rfl ⟨?_, rfl, rfl⟩)
    conv => whnf
    exact fnext (α := StS) ⟨i + 1, o2⟩ ⟨by simp only; omega, by rw [hnx]; exact chA _ ch2⟩ (by simp only; omega) (fstep_sub ⟨Sub.int (by first | rfl | omega | (refine Int.sub_eq_zero.mp ?_; simp (disch := ((try unfold I64); omega)) only [wi64_id, td]; omega)), Sub.refl _, Sub.refl _, Sub.refl _, trivial⟩)
  · obtain rfl : i = 6 := by omega
    obtain ⟨hok0, hql0⟩ := std_ok0
    repeat' first | with_reducible refine fzD_ite (fun q => ?_) (fun q => ?_) | ((try conv => whnf); first
      | refine bs_f (decide_eq_false (show ¬ ((6 : Nat) : Int) < (acsL stdA).length by rw [acsL_len]; simp)) ?_
      | refine bs_d (fun q => ?_) (fun q => ?_)
      | refine bs_n ?_
      | refine bs_i (fun q => ?_) (fun q => ?_)
      | refine eqk rfl ?_
      | refine ffin _ rfl rfl hS (Sub.refl _) rfl ⟨?_, rfl, rfl⟩)
    conv => whnf
    refine floop (α := StS) rfl rfl hS (fun s => s.i ≤ more.length ∧ Ch (look ((more.take s.i).foldl stepN (stdA.foldl stepQ []))) s.o) (fun s => more.length - s.i) (fun s => [(6, .d (.int .i64 s.i)), (3, .d (.po (S.length + 1) 0)), (0, .d (.sl (acsL more)))]) (fun s => [s.o, .arr [.map S.length]]) (fun _ => []) ⟨0, o⟩ ⟨Nat.zero_le _, hch⟩ (fstep_sub ⟨Sub.refl _, Sub.refl _, Sub.refl _, trivial⟩) ?_
    rintro ⟨j, o1⟩ ⟨hj, ch1⟩
    simp only at hj ch1 ⊢
    by_cases hlj : j < more.length
    · obtain ⟨hok, hql⟩ := fold_okN (more.take j) hok0
      have hnx : (more.take (j + 1)).foldl stepN (stdA.foldl stepQ []) = stepN ((more.take j).foldl stepN (stdA.foldl stepQ [])) more[j]! := by
        rw [Go.KL.Ytogpeefldehnkaa.take_snA hlj, List.foldl_append]; rfl
      by_cases hz : more[j]!.nm.size ≤ 200
      · rw [stepN, if_pos hz] at hnx
        have he := hok.low.ends (more[j]!).up
        obtain ⟨_, chA⟩ := add_next (a := more[j]!) hok he
        have hd := add_hd (a := more[j]!) hok he
        have hn : dep (look ((more.take j).foldl stepN (stdA.foldl stepQ []))) (more[j]!).up < 1000000 := by have := depF_le (look ((more.take j).foldl stepN (stdA.foldl stepQ []))) 8 (more[j]!).up; unfold dep; omega
        repeat' first | with_reducible refine fzD_ite (fun q => ?_) (fun q => ?_) | ((try conv => whnf); first
          | refine bs_t (decide_eq_true (show (j : Int) < (acsL more).length by omega)) ?_
          | refine bs_t (decide_eq_true (show ((more[j]!.nm.size : Nat) : Int) ≤ 200 by omega)) ?_
          | refine bs_d (fun q => ?_) (fun q => ?_)
          | refine bs_n ?_
          | refine bs_i (fun q => ?_) (fun q => ?_)
          | refine pK_i (iaD_ac (l := more) (i := j) rfl hlj) ?_
          | (refine ckJE (k := 0) (ds' := [.po (S.length + 1) 0, acD more[j]!]) rfl rfl (add_c (cid := S.length + 1) (mid := S.length + 0) (f := look ((more.take j).foldl stepN (stdA.foldl stepQ []))) ch1 (at_own rfl rfl) (at_own (k := 0) rfl rfl) more[j]! _ hn hd) (SubL.refl _) ?_; rintro r o2 ⟨rfl, ch2⟩; skip)
          | refine eqk rfl ?_
          | refine ffin _ rfl rfl hS (Sub.refl _) rfl ⟨?_, rfl, rfl⟩)
        conv => whnf
        exact fnext (α := StS) ⟨j + 1, o2⟩ ⟨by simp only; omega, by rw [hnx]; exact chA _ ch2⟩ (by simp only; omega) (fstep_sub ⟨Sub.int (by first | rfl | omega | (refine Int.sub_eq_zero.mp ?_; simp (disch := ((try unfold I64); omega)) only [wi64_id, td]; omega)), Sub.refl _, Sub.refl _, trivial⟩)
      · rw [stepN, if_neg hz] at hnx
        repeat' first | with_reducible refine fzD_ite (fun q => ?_) (fun q => ?_) | ((try conv => whnf); first
          | refine bs_t (decide_eq_true (show (j : Int) < (acsL more).length by omega)) ?_
          | refine bs_f (decide_eq_false (show ¬ ((more[j]!.nm.size : Nat) : Int) ≤ 200 by omega)) ?_
          | refine bs_d (fun q => ?_) (fun q => ?_)
          | refine bs_n ?_
          | refine bs_i (fun q => ?_) (fun q => ?_)
          | refine pK_i (iaD_ac (l := more) (i := j) rfl hlj) ?_
          | refine eqk rfl ?_
          | refine ffin _ rfl rfl hS (Sub.refl _) rfl ⟨?_, rfl, rfl⟩)
        conv => whnf
        exact fnext (α := StS) ⟨j + 1, o1⟩ ⟨by simp only; omega, by rw [hnx]; exact ch1⟩ (by simp only; omega) (fstep_sub ⟨Sub.int (by first | rfl | omega | (refine Int.sub_eq_zero.mp ?_; simp (disch := ((try unfold I64); omega)) only [wi64_id, td]; omega)), Sub.refl _, Sub.refl _, trivial⟩)
    · rw [List.take_of_length_le (by omega)] at ch1
      repeat' first | with_reducible refine fzD_ite (fun q => ?_) (fun q => ?_) | ((try conv => whnf); first
        | refine bs_f (decide_eq_false (show ¬ (j : Int) < (acsL more).length by omega)) ?_
        | refine bs_d (fun q => ?_) (fun q => ?_)
        | refine bs_n ?_
        | refine bs_i (fun q => ?_) (fun q => ?_)
        | refine ffinJ ⟨o1, ⟨rfl, ch1⟩, rfl, List.append_nil _⟩
        | refine eqk rfl ?_
        | refine ffin _ rfl rfl hS (Sub.refl _) rfl ⟨?_, rfl, rfl⟩)
end Go.KL.Ytogpeefldehnkaa.J
