/- journal.Check: of any entry (without what Tidy and Put want) -/
import Derived.Test.YtjjdfplonbgpbaaDoorDc
import Derived.Test.YtjjdfplonbgpbaaDoorDa
import Derived.Test.YtjjdfplonbgpbaaDoorKy
import Derived.Test.YtjjdfplonbgpbaaDoorDd
import Derived.Test.YtjjdfplonbgpbaaDoorKL29
import Derived.Test.YtjjdfplonbgpbaaDoorRows
import Derived.Test.YtjjdfplonbgpbaaDoorTie
set_option linter.unusedVariables false
set_option linter.unusedSimpArgs false
set_option linter.unusedSectionVars false
set_option maxRecDepth 100000
set_option maxHeartbeats 4000000
namespace Go.KL.YtjjdfplonbgpbaaDoor.J
open Go Go.KL Go.RowKit Go.Proofs Go.KL.YtjjdfplonbgpbaaDoor
theorem c24 : cFun E0.P 24 = some ⟨29, [(4, none), (5, none)], .seq (.rg [⟨some 4, none, .mv (.k (.int .i64 0))⟩, ⟨some 5, none, .mv (.k (.bool false))⟩]) (.seq (.rg [⟨some 6, none, .mv (.k .nilsl)⟩]) (.seq (.seq (.rg [⟨some 9, none, .mv (.t 0)⟩, ⟨some 10, none, .len 1 (.t 9)⟩, ⟨some 11, none, .mv (.k (.int .i64 0))⟩]) (.block 0 (.loop (.seq (.rg [⟨some 12, none, .bin .lss .leaf (.t 11) (.t 10)⟩]) (.seq (.cond (.t 12) .skip (.exit 0)) (.seq (.block 1 (.seq (.rg [⟨some 13, none, .ia 4 (.t 9) (.t 11)⟩, ⟨some 14, none, .ld 4 true (.t 13)⟩, ⟨some 8, none, .alloc [.int .i64 0, .int .u64 0, .int .u64 0, .int .i64 0] 67⟩, ⟨none, none, .st 4 (.t 8) (.t 14)⟩]) (.seq (.rg [⟨some 15, none, .mv (.t 1)⟩, ⟨some 16, none, .fa 3 (.t 8)⟩, ⟨some 17, none, .ld 1 false (.t 16)⟩, ⟨some 18, none, .callv (.t 15) [.t 17]⟩]) (.cond (.t 18) (.rg [⟨some 19, none, .mv (.t 6)⟩, ⟨some 20, none, .fa 3 (.t 8)⟩, ⟨some 21, none, .ld 1 false (.t 20)⟩, ⟨some 22, none, .buildS 1 1 [.int .i64 0] [(0, .t 21)] 2⟩, ⟨some 23, none, .app 89 2 1 8 [.int .i64 0] (.t 19) (.t 22)⟩, ⟨some 6, none, .mv (.t 23)⟩]) .skip)))) (.rg [⟨some 24, none, .bin .add .leaf (.t 11) (.k (.int .i64 1))⟩, ⟨some 11, none, .mv (.t 24)⟩]))))))) (.seq (.rg [⟨some 25, none, .mv (.t 6)⟩, ⟨some 26, none, .call 33 [.t 25]⟩, ⟨some 27, none, .ext 0 (.t 26)⟩, ⟨some 28, none, .ext 1 (.t 26)⟩, ⟨some 4, none, .mv (.t 27)⟩, ⟨some 5, none, .mv (.t 28)⟩]) .ret)))⟩ := by kernel_rfl
theorem c25 : cFun E0.P 25 = some ⟨3, [(2, none)], .seq (.rg [⟨some 2, none, .mv (.k (.bool false))⟩]) (.seq (.rg [⟨some 2, none, .mv (.k (.bool true))⟩]) .ret)⟩ := by kernel_rfl
theorem c10 : cFun E0.P 10 = some ⟨55, [(2, none)], .seq (.rg [⟨some 1, none, .box (.t 0) 36⟩, ⟨some 2, none, .mv (.k (.int .i64 0))⟩]) (.seq (.seq (.rg [⟨some 7, none, .fa 0 (.t 1)⟩, ⟨some 8, none, .ld 1 false (.t 7)⟩, ⟨some 9, none, .bin .lss .leaf (.t 8) (.k (.int .i64 1))⟩, ⟨some 10, none, .mv (.t 9)⟩, ⟨some 11, some (10, false), .fa 0 (.t 1)⟩, ⟨some 12, some (10, false), .ld 1 false (.t 11)⟩, ⟨some 13, some (10, false), .bin .gtr .leaf (.t 12) (.k (.int .i64 3652059))⟩, ⟨some 14, none, .pick (.t 10) (.k (.bool true)) (.t 13)⟩, ⟨some 15, none, .mv (.t 14)⟩, ⟨some 16, some (15, false), .fa 1 (.t 1)⟩, ⟨some 17, some (15, false), .ld 1 false (.t 16)⟩, ⟨some 18, some (15, false), .bin .eql .leaf (.t 17) (.k (.int .u8 0))⟩, ⟨some 19, none, .pick (.t 15) (.k (.bool true)) (.t 18)⟩, ⟨some 20, none, .mv (.t 19)⟩, ⟨some 21, some (20, false), .fa 3 (.t 1)⟩, ⟨some 22, some (20, false), .ld 1 false (.t 21)⟩, ⟨some 23, some (20, false), .len 1 (.t 22)⟩, ⟨some 24, some (20, false), .bin .lss .leaf (.t 23) (.k (.int .i64 2))⟩, ⟨some 25, none, .pick (.t 20) (.k (.bool true)) (.t 24)⟩, ⟨some 26, none, .mv (.t 25)⟩, ⟨some 27, some (26, false), .fa 3 (.t 1)⟩, ⟨some 28, some (26, false), .ld 1 false (.t 27)⟩, ⟨some 29, some (26, false), .len 1 (.t 28)⟩, ⟨some 30, some (26, false), .bin .gtr .leaf (.t 29) (.k (.int .i64 64))⟩, ⟨some 31, none, .pick (.t 26) (.k (.bool true)) (.t 30)⟩]) (.cond (.t 31) (.seq (.rg [⟨some 2, none, .mv (.k (.int .i64 2))⟩]) .ret) .skip)) (.seq (.seq (.rg [⟨some 32, none, .fa 3 (.t 1)⟩, ⟨some 33, none, .ld 1 false (.t 32)⟩, ⟨some 34, none, .len 1 (.t 33)⟩, ⟨some 35, none, .mv (.k (.int .i64 0))⟩]) (.block 0 (.loop (.seq (.rg [⟨some 36, none, .bin .lss .leaf (.t 35) (.t 34)⟩]) (.seq (.cond (.t 36) .skip (.exit 0)) (.seq (.block 1 (.seq (.rg [⟨some 37, none, .ia 4 (.t 33) (.t 35)⟩, ⟨some 38, none, .ld 4 true (.t 37)⟩, ⟨some 4, none, .alloc [.int .i64 0, .int .u64 0, .int .u64 0, .int .i64 0] 67⟩, ⟨none, none, .st 4 (.t 4) (.t 38)⟩]) (.seq (.rg [⟨some 39, none, .ld 4 true (.t 4)⟩, ⟨some 40, none, .call 23 [.t 39]⟩, ⟨some 41, none, .un .not (.t 40)⟩]) (.cond (.t 41) (.seq (.rg [⟨some 2, none, .mv (.k (.int .i64 2))⟩]) .ret) .skip)))) (.rg [⟨some 42, none, .bin .add .leaf (.t 35) (.k (.int .i64 1))⟩, ⟨some 35, none, .mv (.t 42)⟩]))))))) (.seq (.seq (.rg [⟨some 44, none, .fa 3 (.t 1)⟩, ⟨some 45, none, .ld 1 false (.t 44)⟩, ⟨some 46, none, .call 24 [.t 45, .k (.fn 25 [])]⟩, ⟨some 43, none, .mv (.t 46)⟩, ⟨some 47, none, .ext 0 (.t 43)⟩, ⟨some 48, none, .ext 1 (.t 43)⟩, ⟨some 5, none, .mv (.t 47)⟩, ⟨some 6, none, .mv (.t 48)⟩]) (.seq (.rg [⟨some 49, none, .mv (.t 5)⟩, ⟨some 50, none, .bin .neq .leaf (.t 49) (.k (.int .i64 0))⟩, ⟨some 51, none, .mv (.t 50)⟩, ⟨some 52, some (51, false), .mv (.t 6)⟩, ⟨some 53, some (51, false), .un .not (.t 52)⟩, ⟨some 54, none, .pick (.t 51) (.k (.bool true)) (.t 53)⟩]) (.cond (.t 54) (.seq (.rg [⟨some 2, none, .mv (.k (.int .i64 200))⟩]) .ret) .skip))) (.seq (.rg [⟨some 2, none, .mv (.k (.int .i64 0))⟩]) .ret))))⟩ := by kernel_rfl
theorem ffinVP {E : Env} {n0 m0 : Nat} {S J : List O} {T TK : Tks} {d d' : D} {k sz : Nat} {es : List (List D)} {e : TypeId} {Post : D → List O → Tks → Prop} (hn : S.length = n0) (hm : T.length = m0) (hS : OSc n0 m0 S) (hJ : J[k]? = some (.vec es e sz)) (hf : VFrz (n0 + k) es d d') (hsc : d'.sc n0 m0 = true) (hp : Post d' S T) : FFin E n0 m0 S J T TK d Post := by
  refine ⟨d', _, _, ?_, hp⟩
  have h1 := Shift.vfreeze (E := E) (n0 := n0) (m0 := m0) (fr := [(0, d)]) (fr' := [(0, d')]) (S := S ++ J) (tk := T ++ TK) (at_own hn hJ) (t := 0) (d' := d') hf ⟨by simp [KL.get]; exact Sub.refl _, trivial⟩
  rw [set_own hn] at h1
  refine h1.trans ?_
  exact Shift.drop ⟨by simp [KL.get]; exact Sub.refl _, trivial⟩ (Nat.le_of_eq hn.symm) (Nat.le_of_eq hm.symm) (by rw [hn, hm]; simp [frSc, hsc]) (by rw [hn, hm]; exact hS)
theorem vfrzP {id sz : Nat} {es : List (List D)} {x : D} : VFrz id es (.tup [.vec id es.length sz, x]) (.tup [.sl es, x]) := by
  refine .tup rfl fun j d d' h1 h2 => ?_
  match j with
  | 0 => simp at h1 h2; subst h1; subst h2; exact .vec sz
  | 1 => simp at h1 h2; subst h1; subst h2; exact .refl _
  | j + 2 => simp at h1

theorem scL_i64s (n m : Nat) : ∀ l : List Int, scLL n m (i64s l) = true
  | [] => rfl
  | x :: l => by
    have h := scL_i64s n m l
    unfold i64s at h ⊢
    simp only [List.map_cons, scLL, h, Bool.and_true]; rfl

theorem take_snA {α : Type} [Inhabited α] {l : List α} {i : Nat} (h : i < l.length) : l.take (i + 1) = l.take i ++ [l[i]!] := by
  rw [List.take_add_one, List.getElem?_eq_getElem h, getElem!_pos l i h]; rfl
theorem mem_at {α : Type} [Inhabited α] {l : List α} {i : Nat} (h : i < l.length) : l[i]! ∈ l := by rw [getElem!_pos l i h]; exact List.getElem_mem h
theorem iaD_ln {l : List Ln} {i : Nat} {n : Int} (h : n = i) (hi : i < l.length) : iaD 4 (.sl (lns l)) (.int .i64 n) = some (.pe (l[i]!).cs 0) := by
  subst h
  exact iaD_map (f := Ln.cs) (by omega) (by rw [Int.toNat_natCast, List.getElem?_eq_getElem hi, getElem!_pos l i hi]) rfl
structure Ent where
  day : Int
  kind : Int
  src : Int
  L : List Ln
def Ent.d (e : Ent) : D := .agg [.int .i64 e.day, .int .u8 e.kind, .int .u64 e.src, .sl (lns e.L)]
structure Ent.R (e : Ent) : Prop where
  day : I64 e.day
  kind : 0 ≤ e.kind ∧ e.kind < 256
  src : U64 e.src
  L : ∀ x ∈ e.L, x.R
def Ent.hd (e : Ent) : Prop := 1 ≤ e.day ∧ e.day ≤ 3652059 ∧ e.kind ≠ 0 ∧ 2 ≤ e.L.length ∧ e.L.length ≤ 64
instance (e : Ent) : Decidable e.hd := by unfold Ent.hd; infer_instance
def Ent.chk (e : Ent) : Int := if e.hd ∧ ∀ x ∈ e.L, x.may then (if (e.L.map Ln.amt).sum = 0 then 0 else 200) else 2
theorem chk1 (n : Int) : Pure 25 [.int .i64 n] (.bool true) := by
  intro S tk
  refine ACalls.fgo c25 rfl fun hS => ?_
  repeat' first | with_reducible refine fzD_ite (fun q => ?_) (fun q => ?_) | ((try conv => whnf); first | refine bs_d (fun q => ?_) (fun q => ?_) | refine bs_n ?_ | refine bs_i (fun q => ?_) (fun q => ?_) | refine eqk rfl ?_ | refine ffin _ rfl rfl hS (Sub.refl _) rfl ⟨?_, rfl, rfl⟩)
  all_goals rfl
theorem jsum (L : List Ln) (hl : L.length < 1000000) (hR : ∀ x ∈ L, x.R) : Pure 24 [.sl (lns L), .fn 25 []] (sumS (L.map Ln.amt)) := by
  intro S tk
  have hlen := lns_len L
  have hsum := Sum (L.map Ln.amt) (by simp; omega) (fun n hn => by obtain ⟨x, hx, rfl⟩ := List.mem_map.1 hn; exact (hR x hx).amt)
  refine ACalls.fgo c24 rfl fun hS => ?_
  repeat' first | with_reducible refine fzD_ite (fun q => ?_) (fun q => ?_) | ((try conv => whnf); first | refine bs_d (fun q => ?_) (fun q => ?_) | refine bs_n ?_ | refine bs_i (fun q => ?_) (fun q => ?_) | refine eqk rfl ?_ | refine ffin _ rfl rfl hS (Sub.refl _) rfl ⟨?_, rfl, rfl⟩)
  refine floop (α := Nat) rfl rfl hS (fun i => i ≤ L.length) (fun i => L.length - i) (fun i => [(11, .d (.int .i64 i)), (10, .d (.int .i64 L.length)), (9, .d (.sl (lns L))), (1, .d (.fn 25 [])), (6, .d (.gsl (i64s ((L.take i).map Ln.amt)) (tk.length + 0)))]) (fun _ => []) (fun i => [((i64s ((L.take i).map Ln.amt)).length, 2, 1)]) 0 (Nat.zero_le _) (fstep_tok 2 1 (t := 6) (.inl rfl) ⟨Sub.refl _, Sub.int (by rw [hlen]), Sub.refl _, Sub.refl _, Sub.refl _, trivial⟩) ?_
  intro i hi
  by_cases hlt : i < L.length
  · have hgl : i64s ((L.take i).map Ln.amt) ++ [[.int .i64 L[i]!.amt]] = i64s ((L.take (i + 1)).map Ln.amt) := by rw [take_snA hlt]; simp [i64s]
    repeat' first | with_reducible refine fzD_ite (fun q => ?_) (fun q => ?_) | ((try conv => whnf); first | refine bs_t (decide_eq_true (by omega)) ?_ | refine bs_t (rfl : callOK E0.P 25 = true) ?_ | refine bs_d (fun q => ?_) (fun q => ?_) | refine bs_n ?_ | refine bs_i (fun q => ?_) (fun q => ?_) | refine pK_i (iaD_ln (i := i) rfl hlt) ?_ | refine ckz (chk1 _) ?_ | refine cq (chk1 _) ?_ | (refine gk_app (t := 0) (src := [[.int .i64 L[i]!.amt]]) rfl rfl (by rfl) (by rfl) (by rfl) (by simp) (by rw [i64s_len, List.length_map, List.length_take]; simp [maxLen]; omega) ?_; rw [hgl]) | refine eqk rfl ?_ | refine ffin _ rfl rfl hS (Sub.refl _) rfl ⟨?_, rfl, rfl⟩)
    conv => whnf
    exact fnext (α := Nat) (i + 1) (by omega) (by omega) (fstep_drop (J' := []) (Jx := [_]) (TK' := [_]) (TKx := []) rfl rfl ⟨Sub.int (by first | rfl | omega | (refine Int.sub_eq_zero.mp ?_; simp (disch := ((try unfold I64); omega)) only [wi64_id, td]; omega)), Sub.refl _, Sub.refl _, Sub.refl _, Sub.refl _, trivial⟩ (by simp [frD, FD.to, frSc, D.sc, scLL_lns, scL, scL_i64s]) rfl)
  · obtain rfl : i = L.length := by omega
    rw [List.take_length]
    by_cases hf : -9223372036854775808 ≤ (L.map Ln.amt).sum ∧ (L.map Ln.amt).sum < 9223372036854775808
    · rw [sumS, if_pos hf] at hsum ⊢
      repeat' first | with_reducible refine fzD_ite (fun q => ?_) (fun q => ?_) | ((try conv => whnf); first | refine bs_f (decide_eq_false (by omega)) ?_ | refine bs_d (fun q => ?_) (fun q => ?_) | refine bs_n ?_ | refine bs_i (fun q => ?_) (fun q => ?_) | refine ckS (by first | rfl | simp) rfl hsum (.cons (Sub.rd rfl) .nil) ?_ | refine eqk rfl ?_ | refine ffin _ rfl rfl hS (Sub.refl _) rfl ⟨?_, rfl, rfl⟩)
      all_goals rfl
    · rw [sumS, if_neg hf] at hsum ⊢
      repeat' first | with_reducible refine fzD_ite (fun q => ?_) (fun q => ?_) | ((try conv => whnf); first | refine bs_f (decide_eq_false (by omega)) ?_ | refine bs_d (fun q => ?_) (fun q => ?_) | refine bs_n ?_ | refine bs_i (fun q => ?_) (fun q => ?_) | refine ckS (by first | rfl | simp) rfl hsum (.cons (Sub.rd rfl) .nil) ?_ | refine eqk rfl ?_ | refine ffin _ rfl rfl hS (Sub.refl _) rfl ⟨?_, rfl, rfl⟩)
      all_goals rfl
theorem Check (e : Ent) (hR : e.R) : Pure 10 [e.d] (.int .i64 e.chk) := by
  intro S tk
  have hlen := lns_len e.L
  by_cases hh : e.hd
  rotate_left
  · rw [Ent.chk, if_neg (fun h => hh h.1)]
    unfold Ent.hd at hh
    by_cases d1 : e.day < 1
    · refine ACalls.fgo c10 rfl fun hS => ?_
      repeat' first | with_reducible refine fzD_ite (fun q => ?_) (fun q => ?_) | ((try conv => whnf); first | refine bs_t (decide_eq_true d1) ?_ | refine bs_d (fun q => ?_) (fun q => ?_) | refine bs_n ?_ | refine bs_i (fun q => ?_) (fun q => ?_) | refine eqk rfl ?_ | refine ffin _ rfl rfl hS (Sub.refl _) rfl ⟨?_, rfl, rfl⟩)
      all_goals rfl
    · refine ACalls.fgo c10 rfl fun hS => ?_
      repeat' first | with_reducible refine fzD_ite (fun q => ?_) (fun q => ?_) | ((try conv => whnf); first | refine bs_f (decide_eq_false d1) ?_ | refine bs_d (fun q => ?_) (fun q => ?_) | refine bs_n ?_ | refine bs_i (fun q => ?_) (fun q => ?_) | refine eqk rfl ?_ | refine ffin _ rfl rfl hS (Sub.refl _) rfl ⟨?_, rfl, rfl⟩)
      all_goals first | rfl | (exfalso; omega)
  have hh' := hh
  unfold Ent.hd at hh'
  have hsm := jsum e.L (by omega) hR.L
  refine ACalls.fgo c10 rfl fun hS => ?_
  repeat' first | with_reducible refine fzD_ite (fun q => ?_) (fun q => ?_) | ((try conv => whnf); first | refine bs_f (decide_eq_false (by omega)) ?_ | refine bs_d (fun q => ?_) (fun q => ?_) | refine bs_n ?_ | refine bs_i (fun q => ?_) (fun q => ?_) | refine eqk rfl ?_ | refine ffin _ rfl rfl hS (Sub.refl _) rfl ⟨?_, rfl, rfl⟩)
  conv => whnf
  refine floop (α := Nat) rfl rfl hS (fun i => i ≤ e.L.length ∧ ∀ x ∈ e.L.take i, x.may) (fun i => e.L.length - i) (fun i => [(35, .d (.int .i64 i)), (34, .d (.int .i64 e.L.length)), (33, .d (.sl (lns e.L))), (1, .lp 0 0)]) (fun _ => [.arr [.int .i64 e.day, .int .u8 e.kind, .int .u64 e.src, .sl (lns e.L)]]) (fun _ => []) 0 ⟨Nat.zero_le _, by simp⟩ (fstep_sub ⟨Sub.refl _, Sub.int (by rw [hlen]), Sub.refl _, Sub.refl _, trivial⟩) ?_
  rintro i ⟨hi, hm⟩
  by_cases hlt : i < e.L.length
  · have hmy := may e.L[i]!
    by_cases hy : e.L[i]!.may
    · rw [decide_eq_true hy] at hmy
      repeat' first | with_reducible refine fzD_ite (fun q => ?_) (fun q => ?_) | ((try conv => whnf); first | refine bs_t (decide_eq_true (by omega)) ?_ | refine bs_d (fun q => ?_) (fun q => ?_) | refine bs_n ?_ | refine bs_i (fun q => ?_) (fun q => ?_) | refine pK_i (iaD_ln (i := i) rfl hlt) ?_ | refine ckz (hmy) ?_ | refine cq (hmy) ?_ | refine eqk rfl ?_ | refine ffin _ rfl rfl hS (Sub.refl _) rfl ⟨?_, rfl, rfl⟩)
      conv => whnf
      refine fnext (α := Nat) (i + 1) ⟨by omega, fun x hx => ?_⟩ (by omega) (fstep_drop (J' := [_]) (Jx := [_]) (TK' := []) (TKx := []) rfl rfl ⟨Sub.int (by first | rfl | omega | (refine Int.sub_eq_zero.mp ?_; simp (disch := ((try unfold I64); omega)) only [wi64_id, td]; omega)), Sub.refl _, Sub.refl _, Sub.refl _, trivial⟩ (by simp [frD, FD.to, frSc, D.sc, scLL_lns]) (by simp [oScL, oSc, scL, D.sc, scLL_lns]))
      rw [take_snA hlt, List.mem_append, List.mem_singleton] at hx
      rcases hx with hx | rfl
      · exact hm x hx
      · exact hy
    · rw [decide_eq_false hy] at hmy
      rw [Ent.chk, if_neg (fun h => hy (h.2 _ (mem_at hlt)))]
      repeat' first | with_reducible refine fzD_ite (fun q => ?_) (fun q => ?_) | ((try conv => whnf); first | refine bs_t (decide_eq_true (by omega)) ?_ | refine bs_d (fun q => ?_) (fun q => ?_) | refine bs_n ?_ | refine bs_i (fun q => ?_) (fun q => ?_) | refine pK_i (iaD_ln (i := i) rfl hlt) ?_ | refine ckz (hmy) ?_ | refine cq (hmy) ?_ | refine eqk rfl ?_ | refine ffin _ rfl rfl hS (Sub.refl _) rfl ⟨?_, rfl, rfl⟩)
      all_goals rfl
  · rw [List.take_of_length_le (by omega)] at hm
    rw [Ent.chk, if_pos ⟨hh, hm⟩]
    by_cases hz : (e.L.map Ln.amt).sum = 0
    · rw [if_pos hz]
      rw [sumS, if_pos (by omega)] at hsm
      repeat' first | with_reducible refine fzD_ite (fun q => ?_) (fun q => ?_) | ((try conv => whnf); first | refine bs_f (decide_eq_false (by omega)) ?_ | refine bs_t (decide_eq_true hz) ?_ | refine bs_d (fun q => ?_) (fun q => ?_) | refine bs_n ?_ | refine bs_i (fun q => ?_) (fun q => ?_) | refine ckz (hsm) ?_ | refine cq (hsm) ?_ | refine eqk rfl ?_ | refine ffin _ rfl rfl hS (Sub.refl _) rfl ⟨?_, rfl, rfl⟩)
      all_goals rfl
    · rw [if_neg hz]
      by_cases hf : -9223372036854775808 ≤ (e.L.map Ln.amt).sum ∧ (e.L.map Ln.amt).sum < 9223372036854775808
      · rw [sumS, if_pos hf] at hsm
        repeat' first | with_reducible refine fzD_ite (fun q => ?_) (fun q => ?_) | ((try conv => whnf); first | refine bs_f (decide_eq_false (by omega)) ?_ | refine bs_f (decide_eq_false hz) ?_ | refine bs_d (fun q => ?_) (fun q => ?_) | refine bs_n ?_ | refine bs_i (fun q => ?_) (fun q => ?_) | refine ckz (hsm) ?_ | refine cq (hsm) ?_ | refine eqk rfl ?_ | refine ffin _ rfl rfl hS (Sub.refl _) rfl ⟨?_, rfl, rfl⟩)
        all_goals rfl
      · rw [sumS, if_neg hf] at hsm
        repeat' first | with_reducible refine fzD_ite (fun q => ?_) (fun q => ?_) | ((try conv => whnf); first | refine bs_f (decide_eq_false (by omega)) ?_ | refine bs_d (fun q => ?_) (fun q => ?_) | refine bs_n ?_ | refine bs_i (fun q => ?_) (fun q => ?_) | refine ckz (hsm) ?_ | refine cq (hsm) ?_ | refine eqk rfl ?_ | refine ffin _ rfl rfl hS (Sub.refl _) rfl ⟨?_, rfl, rfl⟩)
        all_goals rfl
theorem c22 : cFun E0.P 22 = some ⟨26, [(4, none)], .seq (.rg [⟨some 4, none, .mv (.k (.bool false))⟩]) (.seq (.seq (.rg [⟨some 6, none, .mv (.t 0)⟩, ⟨some 7, none, .len 1 (.t 6)⟩, ⟨some 8, none, .mv (.t 1)⟩, ⟨some 9, none, .len 1 (.t 8)⟩, ⟨some 10, none, .bin .neq .leaf (.t 7) (.t 9)⟩]) (.cond (.t 10) (.seq (.rg [⟨some 4, none, .mv (.k (.bool false))⟩]) .ret) .skip)) (.seq (.seq (.rg [⟨some 5, none, .mv (.k (.int .i64 0))⟩]) (.block 0 (.loop (.seq (.seq (.rg [⟨some 11, none, .mv (.t 5)⟩, ⟨some 12, none, .mv (.t 0)⟩, ⟨some 13, none, .len 1 (.t 12)⟩, ⟨some 14, none, .bin .lss .leaf (.t 11) (.t 13)⟩]) (.cond (.t 14) .skip (.exit 0))) (.seq (.block 1 (.seq (.rd [(⟨some 17, none, .mv (.t 0)⟩, none), (⟨some 18, none, .mv (.t 5)⟩, none), (⟨some 19, none, .ia 4 (.t 17) (.t 18)⟩, none), (⟨some 20, none, .ld 4 true (.t 19)⟩, none), (⟨some 21, none, .mv (.t 1)⟩, none), (⟨some 22, none, .mv (.t 5)⟩, none), (⟨some 23, none, .ia 4 (.t 21) (.t 22)⟩, none), (⟨some 24, none, .ld 4 true (.t 23)⟩, none), (⟨some 25, none, .bin .neq (.agg [(0, .i), (1, .i), (2, .i), (3, .i)]) (.t 20) (.t 24)⟩, none)]) (.cond (.t 25) (.seq (.rg [⟨some 4, none, .mv (.k (.bool false))⟩]) .ret) .skip))) (.rg [⟨some 15, none, .mv (.t 5)⟩, ⟨some 16, none, .bin .add .leaf (.t 15) (.k (.int .i64 1))⟩, ⟨some 5, none, .mv (.t 16)⟩])))))) (.seq (.rg [⟨some 4, none, .mv (.k (.bool true))⟩]) .ret)))⟩ := by kernel_rfl
theorem c9 : cFun E0.P 9 = some ⟨31, [(4, none)], .seq (.rg [⟨some 2, none, .box (.t 0) 36⟩, ⟨some 3, none, .box (.t 1) 36⟩, ⟨some 4, none, .mv (.k (.bool false))⟩]) (.seq (.rg [⟨some 5, none, .fa 0 (.t 2)⟩, ⟨some 6, none, .ld 1 false (.t 5)⟩, ⟨some 7, none, .fa 0 (.t 3)⟩, ⟨some 8, none, .ld 1 false (.t 7)⟩, ⟨some 9, none, .bin .eql .leaf (.t 6) (.t 8)⟩, ⟨some 10, none, .mv (.t 9)⟩, ⟨some 11, some (10, true), .fa 1 (.t 2)⟩, ⟨some 12, some (10, true), .ld 1 false (.t 11)⟩, ⟨some 13, some (10, true), .fa 1 (.t 3)⟩, ⟨some 14, some (10, true), .ld 1 false (.t 13)⟩, ⟨some 15, some (10, true), .bin .eql .leaf (.t 12) (.t 14)⟩, ⟨some 16, none, .pick (.t 10) (.t 15) (.k (.bool false))⟩, ⟨some 17, none, .mv (.t 16)⟩, ⟨some 18, some (17, true), .fa 2 (.t 2)⟩, ⟨some 19, some (17, true), .ld 1 false (.t 18)⟩, ⟨some 20, some (17, true), .fa 2 (.t 3)⟩, ⟨some 21, some (17, true), .ld 1 false (.t 20)⟩, ⟨some 22, some (17, true), .bin .eql .leaf (.t 19) (.t 21)⟩, ⟨some 23, none, .pick (.t 17) (.t 22) (.k (.bool false))⟩, ⟨some 24, none, .mv (.t 23)⟩, ⟨some 25, some (24, true), .fa 3 (.t 2)⟩, ⟨some 26, some (24, true), .ld 1 false (.t 25)⟩, ⟨some 27, some (24, true), .fa 3 (.t 3)⟩, ⟨some 28, some (24, true), .ld 1 false (.t 27)⟩, ⟨some 29, some (24, true), .call 22 [.t 26, .t 28]⟩, ⟨some 30, none, .pick (.t 24) (.t 29) (.k (.bool false))⟩, ⟨some 4, none, .mv (.t 30)⟩]) .ret)⟩ := by kernel_rfl

theorem take_eq {α : Type} [Inhabited α] {a b : List α} {i : Nat} (ha : i < a.length) (hb : i < b.length) (h : a.take i = b.take i) (e : a[i]! = b[i]!) : a.take (i + 1) = b.take (i + 1) := by
  rw [take_snA ha, take_snA hb, h, e]
theorem ne_of_at {α : Type} [Inhabited α] {a b : List α} {i : Nat} (h : ¬ a[i]! = b[i]!) : ¬ a = b := fun e => h (by rw [e])
def lnEq (x y : Ln) : Bool := decide (x.acc = y.acc) && (decide (x.cus = y.cus) && (decide (x.con = y.con) && (decide (x.amt = y.amt) && true)))
theorem ln_t {x y : Ln} (h : lnEq x y = true) : x = y := by
  simp only [lnEq, Bool.and_true, Bool.and_eq_true, decide_eq_true_eq] at h
  cases x; cases y
  simp_all
theorem ln_f {x y : Ln} (h : lnEq x y = false) : ¬ x = y := fun e => by subst e; simp [lnEq] at h
set_option maxHeartbeats 1000000 in
theorem sameL (a b : List Ln) (ha : a.length < 4611686018427387904) (hb : b.length < 4611686018427387904) : Pure 22 [.sl (lns a), .sl (lns b)] (.bool (decide (a = b))) := by
  intro S tk
  have la := lns_len a
  have lb := lns_len b
  refine ACalls.fgo c22 rfl fun hS => ?_
  repeat' first | with_reducible refine fzD_ite (fun q => ?_) (fun q => ?_) | ((try conv => whnf); first | refine bs_d (fun q => ?_) (fun q => ?_) | refine bs_n ?_ | refine bs_i (fun q => ?_) (fun q => ?_) | refine eqk rfl ?_ | refine ffin _ rfl rfl hS (Sub.refl _) rfl ⟨?_, rfl, rfl⟩)
  rotate_left
  · exact congrArg D.bool (decide_eq_false (fun e => by subst e; omega)).symm
  conv => whnf
  have hl : a.length = b.length := by omega
  refine floop (α := Nat) rfl rfl hS (fun i => i ≤ a.length ∧ a.take i = b.take i) (fun i => a.length - i) (fun i => [(5, .d (.int .i64 i)), (0, .d (.sl (lns a))), (1, .d (.sl (lns b)))]) (fun _ => []) (fun _ => []) 0 ⟨Nat.zero_le _, rfl⟩ (fstep_sub ⟨Sub.refl _, Sub.refl _, Sub.refl _, trivial⟩) ?_
  rintro i ⟨h1, h2⟩
  repeat' first | with_reducible refine fzD_ite (fun q => ?_) (fun q => ?_) | ((try conv => whnf); first | refine bs_d (fun q => ?_) (fun q => ?_) <;> (try simp (disch := ((try unfold I64); omega)) only [wi64_id, td] at q) | refine bs_n ?_ | refine bs_i (fun q => ?_) (fun q => ?_) | refine pK_i (iaD_ln (i := i) (by first | rfl | omega | (refine Int.sub_eq_zero.mp ?_; simp (disch := ((try unfold I64); omega)) only [wi64_id, td]; omega)) (by omega)) ?_ | refine eqk rfl ?_ | refine ffin _ rfl rfl hS (Sub.refl _) rfl ⟨?_, rfl, rfl⟩)
  · conv => whnf
    refine fnext (α := Nat) (i + 1) ⟨by omega, take_eq (by omega) (by omega) h2 (ln_t (by assumption))⟩ (by omega) (fstep_sub ⟨Sub.int (by rw [wi64_id]; omega; unfold I64; omega), Sub.refl _, Sub.refl _, trivial⟩)
  · exact congrArg D.bool (decide_eq_false (ne_of_at (i := i) (ln_f (by assumption)))).symm
  · rw [List.take_of_length_le (by omega), List.take_of_length_le (by omega)] at h2
    exact congrArg D.bool (decide_eq_true h2).symm
def Ent.eqB (a b : Ent) : Bool := decide (a.day = b.day) && (decide (a.kind = b.kind) && (decide (a.src = b.src) && decide (a.L = b.L)))
theorem Ent.eqB_self (a : Ent) : a.eqB a = true := by simp [Ent.eqB]
theorem Same (a b : Ent) (ha : a.L.length < 4611686018427387904) (hb : b.L.length < 4611686018427387904) : Pure 9 [a.d, b.d] (.bool (a.eqB b)) := by
  intro S tk
  have h := sameL a.L b.L ha hb
  refine ACalls.fgo c9 rfl fun hS => ?_
  repeat' first | with_reducible refine fzD_ite (fun q => ?_) (fun q => ?_) | ((try conv => whnf); first | refine bs_d (fun q => ?_) (fun q => ?_) | refine bs_n ?_ | refine bs_i (fun q => ?_) (fun q => ?_) | refine ckz (h) ?_ | refine cq (h) ?_ | refine eqk rfl ?_ | refine ffin _ rfl rfl hS (Sub.refl _) rfl ⟨?_, rfl, rfl⟩)
  all_goals simp only [Ent.eqB, tupD, D.bool.injEq]
  all_goals simp [*]
end Go.KL.YtjjdfplonbgpbaaDoor.J
namespace Go.KL.YtjjdfplonbgpbaaDoor.U
open Go Go.KL Go.RowKit Go.Proofs Go.KL.YtjjdfplonbgpbaaDoor
theorem c7 : cFun E0.P 7 = some ⟨52, [(4, some (11, true)), (5, some (4, true)), (6, none)], .seq (.rg [⟨some 2, none, .box (.t 0) 27⟩, ⟨some 4, none, .alloc [.int .u64 0, .int .u64 0, .int .u64 0, .int .i64 0, .int .i64 0, .int .i64 0, .int .i64 0, .int .i64 0, .int .i64 0, .int .i64 0, .int .i64 0] 27⟩, ⟨some 5, none, .alloc [.int .i64 0, .int .u8 0, .int .u64 0, .nilsl] 36⟩, ⟨some 6, none, .mv (.k (.int .i64 0))⟩]) (.seq (.seq (.rg [⟨some 12, none, .mv (.t 1)⟩, ⟨some 13, none, .call 17 [.t 12]⟩, ⟨some 14, none, .un .not (.t 13)⟩]) (.cond (.t 14) (.seq (.rg [⟨some 15, none, .build [.int .u64 0, .int .u64 0, .int .u64 0, .int .i64 0, .int .i64 0, .int .i64 0, .int .i64 0, .int .i64 0, .int .i64 0, .int .i64 0, .int .i64 0] []⟩, ⟨some 16, none, .build [.int .i64 0, .int .u8 0, .int .u64 0, .nilsl] []⟩, ⟨none, none, .st 11 (.t 4) (.t 15)⟩, ⟨none, none, .st 4 (.t 5) (.t 16)⟩, ⟨some 6, none, .mv (.k (.int .i64 2))⟩]) .ret) .skip)) (.seq (.rg [⟨some 18, none, .ld 11 true (.t 2)⟩, ⟨some 19, none, .call 18 [.t 18]⟩, ⟨some 17, none, .mv (.t 19)⟩, ⟨some 20, none, .ext 0 (.t 17)⟩, ⟨some 21, none, .ext 1 (.t 17)⟩, ⟨some 22, none, .ext 2 (.t 17)⟩, ⟨some 7, none, .alloc [.int .u64 0, .int .u64 0, .int .u64 0, .int .i64 0, .int .i64 0, .int .i64 0, .int .i64 0, .int .i64 0, .int .i64 0, .int .i64 0, .int .i64 0] 27⟩, ⟨none, none, .st 11 (.t 7) (.t 20)⟩, ⟨some 8, none, .mv (.t 21)⟩, ⟨some 9, none, .mv (.t 22)⟩]) (.seq (.seq (.rg [⟨some 23, none, .mv (.t 9)⟩, ⟨some 24, none, .bin .neq .leaf (.t 23) (.k (.int .i64 0))⟩]) (.cond (.t 24) (.seq (.rg [⟨some 25, none, .build [.int .u64 0, .int .u64 0, .int .u64 0, .int .i64 0, .int .i64 0, .int .i64 0, .int .i64 0, .int .i64 0, .int .i64 0, .int .i64 0, .int .i64 0] []⟩, ⟨some 26, none, .build [.int .i64 0, .int .u8 0, .int .u64 0, .nilsl] []⟩, ⟨some 27, none, .mv (.t 9)⟩, ⟨none, none, .st 11 (.t 4) (.t 25)⟩, ⟨none, none, .st 4 (.t 5) (.t 26)⟩, ⟨some 6, none, .mv (.t 27)⟩]) .ret) .skip)) (.seq (.rg [⟨some 29, none, .fa 1 (.t 2)⟩, ⟨some 30, none, .ld 1 false (.t 29)⟩, ⟨some 31, none, .fa 2 (.t 2)⟩, ⟨some 32, none, .ld 1 false (.t 31)⟩, ⟨some 33, none, .mv (.t 8)⟩, ⟨some 34, none, .build [.int .i64 0, .int .u64 0, .int .u64 0, .int .i64 0] [(0, 1, .k (.int .i64 4100)), (1, 1, .t 30), (2, 1, .t 32), (3, 1, .t 33)]⟩, ⟨some 35, none, .fa 1 (.t 2)⟩, ⟨some 36, none, .ld 1 false (.t 35)⟩, ⟨some 37, none, .fa 2 (.t 2)⟩, ⟨some 38, none, .ld 1 false (.t 37)⟩, ⟨some 39, none, .mv (.t 8)⟩, ⟨some 40, none, .un .neg (.t 39)⟩, ⟨some 41, none, .build [.int .i64 0, .int .u64 0, .int .u64 0, .int .i64 0] [(0, 1, .k (.int .i64 1200)), (1, 1, .t 36), (2, 1, .t 38), (3, 1, .t 40)]⟩, ⟨some 42, none, .buildS 2 4 [.int .i64 0, .int .u64 0, .int .u64 0, .int .i64 0] [(0, .t 34), (1, .t 41)] 67⟩, ⟨some 43, none, .call 19 [.t 42]⟩, ⟨some 28, none, .mv (.t 43)⟩, ⟨some 44, none, .ext 0 (.t 28)⟩, ⟨some 45, none, .ext 1 (.t 28)⟩, ⟨some 10, none, .mv (.t 44)⟩, ⟨some 11, none, .mv (.t 45)⟩]) (.seq (.rd [(⟨some 46, none, .ld 11 true (.t 7)⟩, none), (⟨some 47, none, .mv (.t 1)⟩, none), (⟨some 48, none, .fa 0 (.t 2)⟩, none), (⟨some 49, none, .ld 1 false (.t 48)⟩, none), (⟨some 50, none, .mv (.t 10)⟩, none), (⟨some 51, none, .build [.int .i64 0, .int .u8 0, .int .u64 0, .nilsl] [(0, 1, .t 47), (1, 1, .k (.int .u8 6)), (2, 1, .t 49), (3, 1, .t 50)]⟩, none), (⟨none, none, .st 11 (.t 4) (.t 46)⟩, some [⟨some 49, none, .ld 1 false (.t 48)⟩]), (⟨none, none, .st 4 (.t 5) (.t 51)⟩, some []), (⟨some 6, none, .mv (.k (.int .i64 0))⟩, none)]) .ret)))))⟩ := by kernel_rfl
theorem c8 : cFun E0.P 8 = some ⟨48, [(4, some (11, true)), (5, some (4, true)), (6, none)], .seq (.rg [⟨some 2, none, .box (.t 0) 27⟩, ⟨some 4, none, .alloc [.int .u64 0, .int .u64 0, .int .u64 0, .int .i64 0, .int .i64 0, .int .i64 0, .int .i64 0, .int .i64 0, .int .i64 0, .int .i64 0, .int .i64 0] 27⟩, ⟨some 5, none, .alloc [.int .i64 0, .int .u8 0, .int .u64 0, .nilsl] 36⟩, ⟨some 6, none, .mv (.k (.int .i64 0))⟩]) (.seq (.seq (.rg [⟨some 11, none, .mv (.t 1)⟩, ⟨some 12, none, .call 20 [.t 11]⟩, ⟨some 13, none, .un .not (.t 12)⟩]) (.cond (.t 13) (.seq (.rg [⟨some 14, none, .build [.int .u64 0, .int .u64 0, .int .u64 0, .int .i64 0, .int .i64 0, .int .i64 0, .int .i64 0, .int .i64 0, .int .i64 0, .int .i64 0, .int .i64 0] []⟩, ⟨some 15, none, .build [.int .i64 0, .int .u8 0, .int .u64 0, .nilsl] []⟩, ⟨none, none, .st 11 (.t 4) (.t 14)⟩, ⟨none, none, .st 4 (.t 5) (.t 15)⟩, ⟨some 6, none, .mv (.k (.int .i64 2))⟩]) .ret) .skip)) (.seq (.rg [⟨some 17, none, .ld 11 true (.t 2)⟩, ⟨some 18, none, .call 21 [.t 17]⟩, ⟨some 16, none, .mv (.t 18)⟩, ⟨some 19, none, .ext 0 (.t 16)⟩, ⟨some 20, none, .ext 1 (.t 16)⟩, ⟨some 21, none, .ext 2 (.t 16)⟩, ⟨some 7, none, .alloc [.int .u64 0, .int .u64 0, .int .u64 0, .int .i64 0, .int .i64 0, .int .i64 0, .int .i64 0, .int .i64 0, .int .i64 0, .int .i64 0, .int .i64 0] 27⟩, ⟨none, none, .st 11 (.t 7) (.t 19)⟩, ⟨some 8, none, .mv (.t 20)⟩, ⟨some 9, none, .mv (.t 21)⟩]) (.seq (.seq (.rg [⟨some 22, none, .mv (.t 9)⟩, ⟨some 23, none, .bin .neq .leaf (.t 22) (.k (.int .i64 0))⟩]) (.cond (.t 23) (.seq (.rg [⟨some 24, none, .build [.int .u64 0, .int .u64 0, .int .u64 0, .int .i64 0, .int .i64 0, .int .i64 0, .int .i64 0, .int .i64 0, .int .i64 0, .int .i64 0, .int .i64 0] []⟩, ⟨some 25, none, .build [.int .i64 0, .int .u8 0, .int .u64 0, .nilsl] []⟩, ⟨some 26, none, .mv (.t 9)⟩, ⟨none, none, .st 11 (.t 4) (.t 24)⟩, ⟨none, none, .st 4 (.t 5) (.t 25)⟩, ⟨some 6, none, .mv (.t 26)⟩]) .ret) .skip)) (.seq (.rg [⟨some 27, none, .mv (.t 1)⟩, ⟨some 28, none, .fa 0 (.t 2)⟩, ⟨some 29, none, .ld 1 false (.t 28)⟩, ⟨some 30, none, .build [.int .i64 0, .int .u8 0, .int .u64 0, .nilsl] [(0, 1, .t 27), (1, 1, .k (.int .u8 6)), (2, 1, .t 29)]⟩, ⟨some 10, none, .alloc [.int .i64 0, .int .u8 0, .int .u64 0, .nilsl] 36⟩, ⟨none, none, .st 4 (.t 10) (.t 30)⟩]) (.seq (.rg [⟨some 31, none, .fa 1 (.t 2)⟩, ⟨some 32, none, .ld 1 false (.t 31)⟩, ⟨some 33, none, .fa 2 (.t 2)⟩, ⟨some 34, none, .ld 1 false (.t 33)⟩, ⟨some 35, none, .mv (.t 8)⟩, ⟨some 36, none, .un .neg (.t 35)⟩, ⟨some 37, none, .build [.int .i64 0, .int .u64 0, .int .u64 0, .int .i64 0] [(0, 1, .k (.int .i64 1200)), (1, 1, .t 32), (2, 1, .t 34), (3, 1, .t 36)]⟩, ⟨some 38, none, .fa 1 (.t 2)⟩, ⟨some 39, none, .ld 1 false (.t 38)⟩, ⟨some 40, none, .fa 2 (.t 2)⟩, ⟨some 41, none, .ld 1 false (.t 40)⟩, ⟨some 42, none, .mv (.t 8)⟩, ⟨some 43, none, .build [.int .i64 0, .int .u64 0, .int .u64 0, .int .i64 0] [(0, 1, .k (.int .i64 4100)), (1, 1, .t 39), (2, 1, .t 41), (3, 1, .t 42)]⟩, ⟨some 44, none, .buildS 2 4 [.int .i64 0, .int .u64 0, .int .u64 0, .int .i64 0] [(0, .t 37), (1, .t 43)] 67⟩, ⟨some 45, none, .fa 3 (.t 10)⟩, ⟨none, none, .st 1 (.t 45) (.t 44)⟩]) (.seq (.rd [(⟨some 46, none, .ld 11 true (.t 7)⟩, none), (⟨some 47, none, .ld 4 true (.t 10)⟩, none), (⟨none, none, .st 11 (.t 4) (.t 46)⟩, some [⟨some 47, none, .ld 4 true (.t 10)⟩]), (⟨none, none, .st 4 (.t 5) (.t 47)⟩, some []), (⟨some 6, none, .mv (.k (.int .i64 0))⟩, none)]) .ret))))))⟩ := by kernel_rfl
theorem c3 : cFun E0.P 3 = some ⟨136, [(6, none)], .seq (.rg [⟨some 3, none, .box (.t 0) 24⟩, ⟨some 5, none, .box (.t 2) 27⟩, ⟨some 6, none, .mv (.k (.bool false))⟩]) (.seq (.seq (.rg [⟨some 22, none, .fa 0 (.t 3)⟩, ⟨some 23, none, .ld 1 false (.t 22)⟩, ⟨some 24, none, .len 1 (.t 23)⟩, ⟨some 25, none, .bin .gtr .leaf (.t 24) (.k (.int .i64 20))⟩]) (.cond (.t 25) (.seq (.rg [⟨some 26, none, .call 4 []⟩, ⟨some 6, none, .mv (.t 26)⟩]) .ret) .skip)) (.seq (.rg [⟨some 28, none, .ld 2 true (.t 3)⟩, ⟨some 29, none, .mv (.t 1)⟩, ⟨some 30, none, .call 5 [.t 28, .t 29]⟩, ⟨some 27, none, .mv (.t 30)⟩, ⟨some 31, none, .ext 0 (.t 27)⟩, ⟨some 32, none, .ext 1 (.t 27)⟩, ⟨some 33, none, .ext 2 (.t 27)⟩, ⟨some 7, none, .mv (.t 31)⟩, ⟨some 8, none, .mv (.t 32)⟩, ⟨some 9, none, .mv (.t 33)⟩]) (.seq (.rg [⟨some 35, none, .ld 2 true (.t 3)⟩, ⟨some 36, none, .mv (.t 1)⟩, ⟨some 37, none, .call 6 [.t 35, .t 36]⟩, ⟨some 34, none, .mv (.t 37)⟩, ⟨some 38, none, .ext 0 (.t 34)⟩, ⟨some 39, none, .ext 1 (.t 34)⟩, ⟨some 40, none, .ext 2 (.t 34)⟩, ⟨some 10, none, .mv (.t 38)⟩, ⟨some 11, none, .mv (.t 39)⟩, ⟨some 12, none, .mv (.t 40)⟩]) (.seq (.seq (.rg [⟨some 41, none, .mv (.t 7)⟩, ⟨some 42, none, .mv (.t 10)⟩, ⟨some 43, none, .bin .neq .leaf (.t 41) (.t 42)⟩, ⟨some 44, none, .mv (.t 43)⟩, ⟨some 45, some (44, false), .mv (.t 8)⟩, ⟨some 46, some (44, false), .mv (.t 11)⟩, ⟨some 47, some (44, false), .bin .neq .leafB (.t 45) (.t 46)⟩, ⟨some 48, none, .pick (.t 44) (.k (.bool true)) (.t 47)⟩, ⟨some 49, none, .mv (.t 48)⟩, ⟨some 50, some (49, false), .mv (.t 9)⟩, ⟨some 51, some (49, false), .mv (.t 12)⟩, ⟨some 52, some (49, false), .bin .neq .leaf (.t 50) (.t 51)⟩, ⟨some 53, none, .pick (.t 49) (.k (.bool true)) (.t 52)⟩]) (.cond (.t 53) (.seq (.rg [⟨some 6, none, .mv (.k (.bool false))⟩]) .ret) .skip)) (.seq (.seq (.rg [⟨some 54, none, .mv (.t 9)⟩, ⟨some 55, none, .bin .eql .leaf (.t 54) (.k (.int .i64 0))⟩, ⟨some 56, none, .mv (.t 55)⟩, ⟨some 57, some (56, true), .mv (.t 1)⟩, ⟨some 58, some (56, true), .bin .lss .leaf (.t 57) (.k (.int .i64 1099511627776))⟩, ⟨some 59, none, .pick (.t 56) (.t 58) (.k (.bool false))⟩]) (.cond (.t 59) (.seq (.rg [⟨some 61, none, .ld 2 true (.t 3)⟩, ⟨some 62, none, .mv (.t 1)⟩, ⟨some 63, none, .bin .add .leaf (.t 62) (.k (.int .i64 1))⟩, ⟨some 64, none, .call 5 [.t 61, .t 63]⟩, ⟨some 60, none, .mv (.t 64)⟩, ⟨some 65, none, .ext 0 (.t 60)⟩, ⟨some 66, none, .ext 1 (.t 60)⟩, ⟨some 67, none, .ext 2 (.t 60)⟩, ⟨some 13, none, .mv (.t 65)⟩, ⟨some 14, none, .mv (.t 66)⟩, ⟨some 15, none, .mv (.t 67)⟩]) (.seq (.rg [⟨some 68, none, .mv (.t 15)⟩, ⟨some 69, none, .bin .neq .leaf (.t 68) (.k (.int .i64 0))⟩, ⟨some 70, none, .mv (.t 69)⟩, ⟨some 71, some (70, false), .mv (.t 13)⟩, ⟨some 72, some (70, false), .mv (.t 7)⟩, ⟨some 73, some (70, false), .bin .lss .leaf (.t 71) (.t 72)⟩, ⟨some 74, none, .pick (.t 70) (.k (.bool true)) (.t 73)⟩, ⟨some 75, none, .mv (.t 74)⟩, ⟨some 76, some (75, false), .mv (.t 8)⟩, ⟨some 77, some (75, false), .mv (.t 76)⟩, ⟨some 78, some (77, true), .mv (.t 14)⟩, ⟨some 79, some (77, true), .un .not (.t 78)⟩, ⟨some 80, some (75, false), .pick (.t 77) (.t 79) (.k (.bool false))⟩, ⟨some 81, none, .pick (.t 75) (.k (.bool true)) (.t 80)⟩, ⟨some 82, none, .mv (.t 81)⟩, ⟨some 83, some (82, false), .mv (.t 8)⟩, ⟨some 84, some (82, false), .mv (.t 83)⟩, ⟨some 85, some (84, true), .mv (.t 7)⟩, ⟨some 86, some (84, true), .fa 0 (.t 3)⟩, ⟨some 87, some (84, true), .ld 1 false (.t 86)⟩, ⟨some 88, some (84, true), .len 1 (.t 87)⟩, ⟨some 89, some (84, true), .bin .neq .leaf (.t 85) (.t 88)⟩, ⟨some 90, some (82, false), .pick (.t 84) (.t 89) (.k (.bool false))⟩, ⟨some 91, none, .pick (.t 82) (.k (.bool true)) (.t 90)⟩]) (.cond (.t 91) (.seq (.rg [⟨some 6, none, .mv (.k (.bool false))⟩]) .ret) .skip))) .skip)) (.seq (.rg [⟨some 93, none, .ld 11 true (.t 5)⟩, ⟨some 94, none, .mv (.t 1)⟩, ⟨some 95, none, .call 7 [.t 93, .t 94]⟩, ⟨some 92, none, .mv (.t 95)⟩, ⟨some 96, none, .ext 0 (.t 92)⟩, ⟨some 97, none, .ext 1 (.t 92)⟩, ⟨some 98, none, .ext 2 (.t 92)⟩, ⟨some 16, none, .alloc [.int .u64 0, .int .u64 0, .int .u64 0, .int .i64 0, .int .i64 0, .int .i64 0, .int .i64 0, .int .i64 0, .int .i64 0, .int .i64 0, .int .i64 0] 27⟩, ⟨some 17, none, .alloc [.int .i64 0, .int .u8 0, .int .u64 0, .nilsl] 36⟩, ⟨none, none, .st 11 (.t 16) (.t 96)⟩, ⟨none, none, .st 4 (.t 17) (.t 97)⟩, ⟨some 18, none, .mv (.t 98)⟩]) (.seq (.rg [⟨some 100, none, .ld 11 true (.t 5)⟩, ⟨some 101, none, .mv (.t 1)⟩, ⟨some 102, none, .call 8 [.t 100, .t 101]⟩, ⟨some 99, none, .mv (.t 102)⟩, ⟨some 103, none, .ext 0 (.t 99)⟩, ⟨some 104, none, .ext 1 (.t 99)⟩, ⟨some 105, none, .ext 2 (.t 99)⟩, ⟨some 19, none, .alloc [.int .u64 0, .int .u64 0, .int .u64 0, .int .i64 0, .int .i64 0, .int .i64 0, .int .i64 0, .int .i64 0, .int .i64 0, .int .i64 0, .int .i64 0] 27⟩, ⟨some 20, none, .alloc [.int .i64 0, .int .u8 0, .int .u64 0, .nilsl] 36⟩, ⟨none, none, .st 11 (.t 19) (.t 103)⟩, ⟨none, none, .st 4 (.t 20) (.t 104)⟩, ⟨some 21, none, .mv (.t 105)⟩]) (.seq (.rg [⟨some 106, none, .ld 11 true (.t 16)⟩, ⟨some 107, none, .ld 11 true (.t 19)⟩, ⟨some 108, none, .bin .eql (.agg [(0, .i), (1, .i), (2, .i), (3, .i), (4, .i), (5, .i), (6, .i), (7, .i), (8, .i), (9, .i), (10, .i)]) (.t 106) (.t 107)⟩, ⟨some 109, none, .mv (.t 108)⟩, ⟨some 110, some (109, true), .ld 4 true (.t 17)⟩, ⟨some 111, some (109, true), .ld 4 true (.t 20)⟩, ⟨some 112, some (109, true), .call 9 [.t 110, .t 111]⟩, ⟨some 113, none, .pick (.t 109) (.t 112) (.k (.bool false))⟩, ⟨some 114, none, .mv (.t 113)⟩, ⟨some 115, some (114, true), .mv (.t 18)⟩, ⟨some 116, some (114, true), .mv (.t 21)⟩, ⟨some 117, some (114, true), .bin .eql .leaf (.t 115) (.t 116)⟩, ⟨some 118, none, .pick (.t 114) (.t 117) (.k (.bool false))⟩, ⟨some 119, none, .mv (.t 118)⟩, ⟨some 120, some (119, true), .mv (.t 18)⟩, ⟨some 121, some (119, true), .bin .neq .leaf (.t 120) (.k (.int .i64 0))⟩, ⟨some 122, some (119, true), .mv (.t 121)⟩, ⟨some 123, some (122, false), .ld 4 true (.t 17)⟩, ⟨some 124, some (122, false), .call 10 [.t 123]⟩, ⟨some 125, some (122, false), .bin .eql .leaf (.t 124) (.k (.int .i64 0))⟩, ⟨some 126, some (122, false), .mv (.t 125)⟩, ⟨some 127, some (126, true), .ld 11 true (.t 16)⟩, ⟨some 128, some (126, true), .call 11 [.t 127]⟩, ⟨some 129, some (126, true), .bin .eql .leaf (.t 128) (.k (.int .i64 0))⟩, ⟨some 130, some (122, false), .pick (.t 126) (.t 129) (.k (.bool false))⟩, ⟨some 131, some (119, true), .pick (.t 122) (.k (.bool true)) (.t 130)⟩, ⟨some 132, none, .pick (.t 119) (.t 131) (.k (.bool false))⟩, ⟨some 133, none, .mv (.t 132)⟩, ⟨some 134, some (133, true), .call 4 []⟩, ⟨some 135, none, .pick (.t 133) (.t 134) (.k (.bool false))⟩, ⟨some 6, none, .mv (.t 135)⟩]) .ret))))))))⟩ := by kernel_rfl

theorem cnt_mono {a b : Int} (h : a ≤ b) : ∀ l : List Int, cnt' a l ≤ cnt' b l
  | [] => Int.le_refl _
  | n :: r => by
    have := cnt_mono h r
    simp only [cnt']
    split <;> split <;> omega
theorem cnt_all {late : Int} : ∀ {l : List Int} {a : Int}, inc a l → lst a l ≤ late → cnt' late l = l.length
  | [], _, _, _ => rfl
  | n :: r, a, h, hl => by
    have h1 : n ≤ lst n r := by
      have : ∀ (l : List Int) (a : Int), inc a l → a ≤ lst a l := fun l => by
        induction l with
        | nil => intro a _; exact Int.le_refl _
        | cons m r ih => intro a h; have := ih m h.2; have := h.1; simp only [lst]; omega
      exact this r n h.2
    have := cnt_all (a := n) h.2 hl
    simp only [cnt', List.length_cons]
    simp only [lst] at hl
    rw [if_pos (by omega), this]; omega
abbrev zE : D := .agg [.int .i64 0, .int .u8 0, .int .u64 0, .nilsl]
def lsE (x : Iv) (day : Int) : J.Ent := ⟨day, 6, x.id, [⟨1200, x.cu, x.co, -x.op⟩, ⟨4100, x.cu, x.co, x.op⟩]⟩
def lsD (x : Iv) (day : Int) : D := if 1 ≤ day ∧ day ≤ 3652059 then (match x.lose with
  | .ok (y, _) => .tup [y.d, (lsE x day).d, .int .i64 0]
  | .error e => .tup [Iv.zero.d, zE, .int .i64 e]) else .tup [Iv.zero.d, zE, .int .i64 2]
theorem lose_cases (x : Iv) : (x.ok ∧ x.op ≠ 0 ∧ x.lose = .ok ({ x with lo := x.lo + x.op }, x.op)) ∨ ∃ e, (e = 2 ∨ e = 9) ∧ x.lose = .error e := by
  unfold Iv.lose
  by_cases h : x.ok
  · rw [if_pos h]
    by_cases h0 : x.op = 0
    · rw [if_pos h0]; exact .inr ⟨9, .inr rfl, rfl⟩
    · rw [if_neg h0]; exact .inl ⟨h, h0, rfl⟩
  · rw [if_neg h]; exact .inr ⟨2, .inl rfl, rfl⟩
theorem lines_R (x : Iv) (hx : x.R) : (⟨1200, x.cu, x.co, -x.op⟩ : Ln).R ∧ (⟨4100, x.cu, x.co, x.op⟩ : Ln).R := by
  have := op_bd x
  exact ⟨⟨by simp [I64], hx.cu, hx.co, by simp only; unfold I64; omega⟩, ⟨by simp [I64], hx.cu, hx.co, by simp only; unfold I64; omega⟩⟩
theorem dLose (x : Iv) (hx : x.R) (day : Int) : Pure 7 [x.d, .int .i64 day] (lsD x day) := by
  intro S tk
  have hd := dunDay day
  have hls := Lose x hx
  have hb := op_bd x
  unfold lsD
  by_cases hday : 1 ≤ day ∧ day ≤ 3652059
  rotate_left
  · rw [decide_eq_false hday] at hd
    rw [if_neg hday]
    refine ACalls.fgo c7 rfl fun hS => ?_
    repeat' first | with_reducible refine fzD_ite (fun q => ?_) (fun q => ?_) | ((try conv => whnf); first | refine bs_d (fun q => ?_) (fun q => ?_) | refine bs_n ?_ | refine bs_i (fun q => ?_) (fun q => ?_) | refine ckz (hd) ?_ | refine cq (hd) ?_ | refine eqk rfl ?_ | refine ffin _ rfl rfl hS (Sub.refl _) rfl ⟨?_, rfl, rfl⟩)
    all_goals rfl
  rw [decide_eq_true hday] at hd
  rw [if_pos hday]
  rcases lose_cases x with ⟨hok, h0, he⟩ | ⟨e, hev, he⟩
  · rw [he] at hls ⊢
    obtain ⟨r1, r2⟩ := lines_R x hx
    have hw : IntKind.wrap .i64 (0 - x.op) = -x.op := by rw [wi64_id (by unfold I64; omega)]; omega
    have ht := (tidy2 (a := ⟨1200, x.cu, x.co, -x.op⟩) (b := ⟨4100, x.cu, x.co, x.op⟩) (by unfold Ln.may; simp only; omega) (by unfold Ln.may; simp only; omega) (by simp) r1 r2).2
    have ht2 : Pure 19 [.sl [[.int .i64 4100, .int .u64 x.cu, .int .u64 x.co, .int .i64 x.op], [.int .i64 1200, .int .u64 x.cu, .int .u64 x.co, .int .i64 (IntKind.wrap .i64 (0 - x.op))]]] (.tup [.sl (lns [⟨1200, x.cu, x.co, -x.op⟩, ⟨4100, x.cu, x.co, x.op⟩]), .int .i64 0]) := by rw [hw]; exact ht
    refine ACalls.fgo c7 rfl fun hS => ?_
    repeat' first | with_reducible refine fzD_ite (fun q => ?_) (fun q => ?_) | ((try conv => whnf); first | refine bs_t (decide_eq_true rfl) ?_ | refine bs_d (fun q => ?_) (fun q => ?_) | refine bs_n ?_ | refine bs_i (fun q => ?_) (fun q => ?_) | refine ckz (hd) ?_ | refine cq (hd) ?_ | refine ckz (hls) ?_ | refine cq (hls) ?_ | refine ckz (ht2) ?_ | refine cq (ht2) ?_ | refine ffin _ rfl rfl hS (Sub.refl _) (by simp [tupD, D.sc, scL, scLL_lns]) ⟨?_, rfl, rfl⟩ | refine eqk rfl ?_ | refine ffin _ rfl rfl hS (Sub.refl _) rfl ⟨?_, rfl, rfl⟩)
    all_goals rfl
  · rw [he] at hls ⊢
    have hne : ¬ e = 0 := by omega
    refine ACalls.fgo c7 rfl fun hS => ?_
    repeat' first | with_reducible refine fzD_ite (fun q => ?_) (fun q => ?_) | ((try conv => whnf); first | refine bs_f (decide_eq_false hne) ?_ | refine bs_d (fun q => ?_) (fun q => ?_) | refine bs_n ?_ | refine bs_i (fun q => ?_) (fun q => ?_) | refine ckz (hd) ?_ | refine cq (hd) ?_ | refine ckz (hls) ?_ | refine cq (hls) ?_ | refine eqk rfl ?_ | refine ffin _ rfl rfl hS (Sub.refl _) rfl ⟨?_, rfl, rfl⟩)
    all_goals rfl
theorem rLose (x : Iv) (hx : x.R) (day : Int) : Pure 8 [x.d, .int .i64 day] (lsD x day) := by
  intro S tk
  have hd := day' day
  have hls := refLose x hx
  have hb := op_bd x
  unfold lsD
  by_cases hday : 1 ≤ day ∧ day ≤ 3652059
  rotate_left
  · rw [decide_eq_false hday] at hd
    rw [if_neg hday]
    refine ACalls.fgo c8 rfl fun hS => ?_
    repeat' first | with_reducible refine fzD_ite (fun q => ?_) (fun q => ?_) | ((try conv => whnf); first | refine bs_d (fun q => ?_) (fun q => ?_) | refine bs_n ?_ | refine bs_i (fun q => ?_) (fun q => ?_) | refine ckz (hd) ?_ | refine cq (hd) ?_ | refine eqk rfl ?_ | refine ffin _ rfl rfl hS (Sub.refl _) rfl ⟨?_, rfl, rfl⟩)
    all_goals rfl
  rw [decide_eq_true hday] at hd
  rw [if_pos hday]
  rcases lose_cases x with ⟨hok, h0, he⟩ | ⟨e, hev, he⟩
  · rw [he] at hls ⊢
    have hw : IntKind.wrap .i64 (0 - x.op) = -x.op := by rw [wi64_id (by unfold I64; omega)]; omega
    refine ACalls.fgo c8 rfl fun hS => ?_
    repeat' first | with_reducible refine fzD_ite (fun q => ?_) (fun q => ?_) | ((try conv => whnf); first | refine bs_t (decide_eq_true rfl) ?_ | refine bs_d (fun q => ?_) (fun q => ?_) | refine bs_n ?_ | refine bs_i (fun q => ?_) (fun q => ?_) | refine ckz (hd) ?_ | refine cq (hd) ?_ | refine ckz (hls) ?_ | refine cq (hls) ?_ | refine eqk rfl ?_ | refine ffin _ rfl rfl hS (Sub.refl _) rfl ⟨?_, rfl, rfl⟩)
    all_goals (show D.tup [_, D.agg [_, _, _, D.sl [[_, _, _, D.int .i64 (IntKind.wrap .i64 (0 - x.op))], _]], _] = _; rw [hw]; rfl)
  · rw [he] at hls ⊢
    have hne : ¬ e = 0 := by omega
    refine ACalls.fgo c8 rfl fun hS => ?_
    repeat' first | with_reducible refine fzD_ite (fun q => ?_) (fun q => ?_) | ((try conv => whnf); first | refine bs_f (decide_eq_false hne) ?_ | refine bs_d (fun q => ?_) (fun q => ?_) | refine bs_n ?_ | refine bs_i (fun q => ?_) (fun q => ?_) | refine ckz (hd) ?_ | refine cq (hd) ?_ | refine ckz (hls) ?_ | refine cq (hls) ?_ | refine eqk rfl ?_ | refine ffin _ rfl rfl hS (Sub.refl _) rfl ⟨?_, rfl, rfl⟩)
    all_goals rfl
theorem sameZ : Pure 9 [zE, zE] (.bool true) := by
  intro S tk
  have h := J.sameL [] [] (by simp) (by simp)
  rw [decide_eq_true rfl] at h
  refine ACalls.fgo J.c9 rfl fun hS => ?_
  repeat' first | with_reducible refine fzD_ite (fun q => ?_) (fun q => ?_) | ((try conv => whnf); first | refine bs_t (decide_eq_true rfl) ?_ | refine bs_d (fun q => ?_) (fun q => ?_) | refine bs_n ?_ | refine bs_i (fun q => ?_) (fun q => ?_) | refine ckS (by first | rfl | simp) rfl h (.cons (Sub.rd rfl) (.cons (Sub.rd rfl) .nil)) ?_ | refine cqS h (.cons (Sub.rd rfl) (.cons (Sub.rd rfl) .nil)) ?_ | refine eqk rfl ?_ | refine ffin _ rfl rfl hS (Sub.refl _) rfl ⟨?_, rfl, rfl⟩)
  all_goals rfl
theorem lsE_R (x : Iv) (hx : x.R) {day : Int} (hd : I64 day) : (lsE x day).R := by
  obtain ⟨r1, r2⟩ := lines_R x hx
  exact ⟨hd, by simp [lsE], hx.id, by simp [lsE, r1, r2]⟩
theorem lsE_chk (x : Iv) {day : Int} (hd : 1 ≤ day ∧ day ≤ 3652059) (h0 : x.op ≠ 0) : (lsE x day).chk = 0 := by
  have hb := op_bd x
  unfold J.Ent.chk
  rw [if_pos, if_pos]
  · simp [lsE]; omega
  · refine ⟨by unfold J.Ent.hd; simp [lsE]; omega, fun y hy => ?_⟩
    simp only [lsE, List.mem_cons, List.not_mem_nil, or_false] at hy
    rcases hy with rfl | rfl
    · unfold Ln.may; simp only; omega
    · unfold Ln.may; simp only; omega
theorem now_op {x : Iv} (h : x.ok) : ({ x with lo := x.lo + x.op } : Iv).op = 0 := by
  have e := op_ok h
  have hb := op_bd x
  unfold Iv.ok at h
  have hk : ({ x with lo := x.lo + x.op } : Iv).ok := by
    unfold Iv.ok; simp only; omega
  rw [op_ok hk]; simp only; omega
set_option maxHeartbeats 4000000 in
theorem Stages (p : Po) (hpd : ∀ n ∈ p.days, I64 n) (hpl : I64 p.lose) (late : Int) (hlate : I64 late) (x : Iv) (hx : x.R) : Pure 3 [p.d, .int .i64 late, x.d] (.bool true) := by
  intro S tk
  have hlen := i64s_len p.days
  by_cases hbig : (p.days.length : Int) > 20
  · refine ACalls.fgo c3 rfl fun hS => ?_
    repeat' first | with_reducible refine fzD_ite (fun q => ?_) (fun q => ?_) | ((try conv => whnf); first | refine bs_t (decide_eq_true (show ((i64s p.days).length : Int) > 20 by omega)) ?_ | refine bs_d (fun q => ?_) (fun q => ?_) | refine bs_n ?_ | refine bs_i (fun q => ?_) (fun q => ?_) | refine ckz (head) ?_ | refine cq (head) ?_ | refine eqk rfl ?_ | refine ffin _ rfl rfl hS (Sub.refl _) rfl ⟨?_, rfl, rfl⟩)
    all_goals rfl
  have hp : p.R := ⟨by omega, hpd, hpl⟩
  have s1 := dunStage p hp late
  have s2 := dunStage' p hp late
  have s3 : late < 1099511627776 → Pure 5 [p.d, .int .i64 (IntKind.wrap .i64 (late + 1))] (stD p (late + 1)) := fun h => by
    rw [show IntKind.wrap .i64 (late + 1) = late + 1 from wi64_id (by unfold I64 at *; omega)]
    exact dunStage p hp (late + 1)
  have l1 := dLose x hx late
  have l2 := rLose x hx late
  have hop := Open x hx
  -- what Lose comes to
  have hlose : (∃ y : Iv, y.R ∧ y.op = 0 ∧ (lsE x late).R ∧ (lsE x late).chk = 0 ∧ lsD x late = .tup [y.d, (lsE x late).d, .int .i64 0]) ∨ ∃ e, ¬ e = 0 ∧ lsD x late = .tup [Iv.zero.d, zE, .int .i64 e] := by
    unfold lsD
    by_cases hday : 1 ≤ late ∧ late ≤ 3652059
    · rw [if_pos hday]
      rcases lose_cases x with ⟨hok, h0, he⟩ | ⟨e, hev, he⟩
      · rw [he]
        refine .inl ⟨_, ?_, now_op hok, lsE_R x hx hlate, lsE_chk x hday h0, rfl⟩
        have e := op_ok hok
        unfold Iv.ok at hok
        exact ⟨hx.id, hx.cu, hx.co, hx.day, hx.due, hx.fr, hx.nx, hx.am, hx.cr, hx.pd, by simp only; unfold I64; omega⟩
      · rw [he]; exact .inr ⟨e, by omega, rfl⟩
    · rw [if_neg hday]; exact .inr ⟨2, by omega, rfl⟩
  have hst : (∃ c, ∃ b : Bool, stD p late = .tup [.int .i64 c, .bool b, .int .i64 0] ∧ (late < 1099511627776 → ∃ c2, ∃ b2 : Bool, stD p (late + 1) = .tup [.int .i64 c2, .bool b2, .int .i64 0] ∧ ¬ c2 < c ∧ (b = true → b2 = true) ∧ (b = true → c = ((i64s p.days).length : Nat)))) ∨ stD p late = .tup [.int .i64 0, .bool false, .int .i64 2] := by
    unfold stD
    by_cases hq : p.ok ∧ 0 ≤ late
    · rw [if_pos hq, if_pos (show p.ok ∧ 0 ≤ late + 1 from ⟨hq.1, by omega⟩)]
      refine .inl ⟨_, _, rfl, fun _ => ⟨_, _, rfl, ?_, fun h => ?_, fun h => ?_⟩⟩
      · have := cnt_mono (show late ≤ late + 1 by omega) p.days; omega
      · rw [decide_eq_true_eq] at h ⊢; omega
      · rw [decide_eq_true_eq] at h
        have hk := hq.1
        unfold Po.ok at hk
        rw [cnt_all hk.2.2.1 (by omega), hlen]
    · rw [if_neg hq]; exact .inr rfl
  rcases hlose with ⟨y, hyR, hy0, heR, hec, hl⟩ | ⟨e, he0, hl⟩
  · have hsm := J.Same (lsE x late) (lsE x late) (by simp [lsE]) (by simp [lsE])
    rw [J.Ent.eqB_self] at hsm
    have hck := J.Check (lsE x late) heR
    rw [hec] at hck
    have hoy := Open y hyR
    rw [hy0] at hoy
    rw [hl] at l1 l2
    rcases hst with ⟨c, b, h1, h2⟩ | h1
    · rw [h1] at s1 s2
      by_cases hlt : late < 1099511627776
      · obtain ⟨c2, b2, h3, h4, h5, h6⟩ := h2 hlt
        have s3 := s3 hlt
        rw [h3] at s3
        cases b with
        | true =>
          rw [h5 rfl] at s3
          have h6 := h6 rfl
          refine ACalls.fgo c3 rfl fun hS => ?_
          repeat' first | with_reducible refine fzD_ite (fun q => ?_) (fun q => ?_) | ((try conv => whnf); first | refine bs_f (decide_eq_false (show ¬ ((i64s p.days).length : Int) > 20 by omega)) ?_ | refine bs_t (decide_eq_true rfl) ?_ | refine bs_t (decide_eq_true hlt) ?_ | refine bs_f (decide_eq_false h4) ?_ | refine bs_t (decide_eq_true h6) ?_ | refine bs_and ?_ | refine bs_d (fun q => ?_) (fun q => ?_) | refine bs_n ?_ | refine bs_i (fun q => ?_) (fun q => ?_) | refine ckz (s1) ?_ | refine cq (s1) ?_ | refine ckz (s2) ?_ | refine cq (s2) ?_ | refine ckz (s3) ?_ | refine cq (s3) ?_ | refine ckz (l1) ?_ | refine cq (l1) ?_ | refine ckz (l2) ?_ | refine cq (l2) ?_ | refine ckz (hsm) ?_ | refine cq (hsm) ?_ | refine ckz (hck) ?_ | refine cq (hck) ?_ | refine ckz (hoy) ?_ | refine cq (hoy) ?_ | refine ckz (head) ?_ | refine cq (head) ?_ | refine eqk rfl ?_ | refine ffin _ rfl rfl hS (Sub.refl _) rfl ⟨?_, rfl, rfl⟩)
          all_goals rfl
        | false =>
          cases b2 with
          | true =>
            refine ACalls.fgo c3 rfl fun hS => ?_
            repeat' first | with_reducible refine fzD_ite (fun q => ?_) (fun q => ?_) | ((try conv => whnf); first | refine bs_f (decide_eq_false (show ¬ ((i64s p.days).length : Int) > 20 by omega)) ?_ | refine bs_t (decide_eq_true rfl) ?_ | refine bs_t (decide_eq_true hlt) ?_ | refine bs_f (decide_eq_false h4) ?_ | refine bs_and ?_ | refine bs_d (fun q => ?_) (fun q => ?_) | refine bs_n ?_ | refine bs_i (fun q => ?_) (fun q => ?_) | refine ckz (s1) ?_ | refine cq (s1) ?_ | refine ckz (s2) ?_ | refine cq (s2) ?_ | refine ckz (s3) ?_ | refine cq (s3) ?_ | refine ckz (l1) ?_ | refine cq (l1) ?_ | refine ckz (l2) ?_ | refine cq (l2) ?_ | refine ckz (hsm) ?_ | refine cq (hsm) ?_ | refine ckz (hck) ?_ | refine cq (hck) ?_ | refine ckz (hoy) ?_ | refine cq (hoy) ?_ | refine ckz (head) ?_ | refine cq (head) ?_ | refine eqk rfl ?_ | refine ffin _ rfl rfl hS (Sub.refl _) rfl ⟨?_, rfl, rfl⟩)
            all_goals rfl
          | false =>
            refine ACalls.fgo c3 rfl fun hS => ?_
            repeat' first | with_reducible refine fzD_ite (fun q => ?_) (fun q => ?_) | ((try conv => whnf); first | refine bs_f (decide_eq_false (show ¬ ((i64s p.days).length : Int) > 20 by omega)) ?_ | refine bs_t (decide_eq_true rfl) ?_ | refine bs_t (decide_eq_true hlt) ?_ | refine bs_f (decide_eq_false h4) ?_ | refine bs_and ?_ | refine bs_d (fun q => ?_) (fun q => ?_) | refine bs_n ?_ | refine bs_i (fun q => ?_) (fun q => ?_) | refine ckz (s1) ?_ | refine cq (s1) ?_ | refine ckz (s2) ?_ | refine cq (s2) ?_ | refine ckz (s3) ?_ | refine cq (s3) ?_ | refine ckz (l1) ?_ | refine cq (l1) ?_ | refine ckz (l2) ?_ | refine cq (l2) ?_ | refine ckz (hsm) ?_ | refine cq (hsm) ?_ | refine ckz (hck) ?_ | refine cq (hck) ?_ | refine ckz (hoy) ?_ | refine cq (hoy) ?_ | refine ckz (head) ?_ | refine cq (head) ?_ | refine eqk rfl ?_ | refine ffin _ rfl rfl hS (Sub.refl _) rfl ⟨?_, rfl, rfl⟩)
            all_goals rfl
      · cases b with
        | true =>
          refine ACalls.fgo c3 rfl fun hS => ?_
          repeat' first | with_reducible refine fzD_ite (fun q => ?_) (fun q => ?_) | ((try conv => whnf); first | refine bs_f (decide_eq_false (show ¬ ((i64s p.days).length : Int) > 20 by omega)) ?_ | refine bs_t (decide_eq_true rfl) ?_ | refine bs_f (decide_eq_false hlt) ?_ | refine bs_and ?_ | refine bs_d (fun q => ?_) (fun q => ?_) | refine bs_n ?_ | refine bs_i (fun q => ?_) (fun q => ?_) | refine ckz (s1) ?_ | refine cq (s1) ?_ | refine ckz (s2) ?_ | refine cq (s2) ?_ | refine ckz (l1) ?_ | refine cq (l1) ?_ | refine ckz (l2) ?_ | refine cq (l2) ?_ | refine ckz (hsm) ?_ | refine cq (hsm) ?_ | refine ckz (hck) ?_ | refine cq (hck) ?_ | refine ckz (hoy) ?_ | refine cq (hoy) ?_ | refine ckz (head) ?_ | refine cq (head) ?_ | refine eqk rfl ?_ | refine ffin _ rfl rfl hS (Sub.refl _) rfl ⟨?_, rfl, rfl⟩)
          all_goals rfl
        | false =>
          refine ACalls.fgo c3 rfl fun hS => ?_
          repeat' first | with_reducible refine fzD_ite (fun q => ?_) (fun q => ?_) | ((try conv => whnf); first | refine bs_f (decide_eq_false (show ¬ ((i64s p.days).length : Int) > 20 by omega)) ?_ | refine bs_t (decide_eq_true rfl) ?_ | refine bs_f (decide_eq_false hlt) ?_ | refine bs_and ?_ | refine bs_d (fun q => ?_) (fun q => ?_) | refine bs_n ?_ | refine bs_i (fun q => ?_) (fun q => ?_) | refine ckz (s1) ?_ | refine cq (s1) ?_ | refine ckz (s2) ?_ | refine cq (s2) ?_ | refine ckz (l1) ?_ | refine cq (l1) ?_ | refine ckz (l2) ?_ | refine cq (l2) ?_ | refine ckz (hsm) ?_ | refine cq (hsm) ?_ | refine ckz (hck) ?_ | refine cq (hck) ?_ | refine ckz (hoy) ?_ | refine cq (hoy) ?_ | refine ckz (head) ?_ | refine cq (head) ?_ | refine eqk rfl ?_ | refine ffin _ rfl rfl hS (Sub.refl _) rfl ⟨?_, rfl, rfl⟩)
          all_goals rfl
    · rw [h1] at s1 s2
      refine ACalls.fgo c3 rfl fun hS => ?_
      repeat' first | with_reducible refine fzD_ite (fun q => ?_) (fun q => ?_) | ((try conv => whnf); first | refine bs_f (decide_eq_false (show ¬ ((i64s p.days).length : Int) > 20 by omega)) ?_ | refine bs_t (decide_eq_true rfl) ?_ | refine bs_and ?_ | refine bs_d (fun q => ?_) (fun q => ?_) | refine bs_n ?_ | refine bs_i (fun q => ?_) (fun q => ?_) | refine ckz (s1) ?_ | refine cq (s1) ?_ | refine ckz (s2) ?_ | refine cq (s2) ?_ | refine ckz (l1) ?_ | refine cq (l1) ?_ | refine ckz (l2) ?_ | refine cq (l2) ?_ | refine ckz (hsm) ?_ | refine cq (hsm) ?_ | refine ckz (hck) ?_ | refine cq (hck) ?_ | refine ckz (hoy) ?_ | refine cq (hoy) ?_ | refine ckz (head) ?_ | refine cq (head) ?_ | refine eqk rfl ?_ | refine ffin _ rfl rfl hS (Sub.refl _) rfl ⟨?_, rfl, rfl⟩)
      all_goals rfl
  · rw [hl] at l1 l2
    rcases hst with ⟨c, b, h1, h2⟩ | h1
    · rw [h1] at s1 s2
      by_cases hlt : late < 1099511627776
      · obtain ⟨c2, b2, h3, h4, h5, h6⟩ := h2 hlt
        have s3 := s3 hlt
        rw [h3] at s3
        cases b with
        | true =>
          rw [h5 rfl] at s3
          have h6 := h6 rfl
          refine ACalls.fgo c3 rfl fun hS => ?_
          repeat' first | with_reducible refine fzD_ite (fun q => ?_) (fun q => ?_) | ((try conv => whnf); first | refine bs_f (decide_eq_false (show ¬ ((i64s p.days).length : Int) > 20 by omega)) ?_ | refine bs_f (decide_eq_false he0) ?_ | refine bs_t (decide_eq_true rfl) ?_ | refine bs_t (decide_eq_true hlt) ?_ | refine bs_f (decide_eq_false h4) ?_ | refine bs_t (decide_eq_true h6) ?_ | refine bs_and ?_ | refine bs_d (fun q => ?_) (fun q => ?_) | refine bs_n ?_ | refine bs_i (fun q => ?_) (fun q => ?_) | refine ckz (s1) ?_ | refine cq (s1) ?_ | refine ckz (s2) ?_ | refine cq (s2) ?_ | refine ckz (s3) ?_ | refine cq (s3) ?_ | refine ckz (l1) ?_ | refine cq (l1) ?_ | refine ckz (l2) ?_ | refine cq (l2) ?_ | refine ckz (sameZ) ?_ | refine cq (sameZ) ?_ | refine ckz (head) ?_ | refine cq (head) ?_ | refine eqk rfl ?_ | refine ffin _ rfl rfl hS (Sub.refl _) rfl ⟨?_, rfl, rfl⟩)
          all_goals rfl
        | false =>
          cases b2 with
          | true =>
            refine ACalls.fgo c3 rfl fun hS => ?_
            repeat' first | with_reducible refine fzD_ite (fun q => ?_) (fun q => ?_) | ((try conv => whnf); first | refine bs_f (decide_eq_false (show ¬ ((i64s p.days).length : Int) > 20 by omega)) ?_ | refine bs_f (decide_eq_false he0) ?_ | refine bs_t (decide_eq_true rfl) ?_ | refine bs_t (decide_eq_true hlt) ?_ | refine bs_f (decide_eq_false h4) ?_ | refine bs_and ?_ | refine bs_d (fun q => ?_) (fun q => ?_) | refine bs_n ?_ | refine bs_i (fun q => ?_) (fun q => ?_) | refine ckz (s1) ?_ | refine cq (s1) ?_ | refine ckz (s2) ?_ | refine cq (s2) ?_ | refine ckz (s3) ?_ | refine cq (s3) ?_ | refine ckz (l1) ?_ | refine cq (l1) ?_ | refine ckz (l2) ?_ | refine cq (l2) ?_ | refine ckz (sameZ) ?_ | refine cq (sameZ) ?_ | refine ckz (head) ?_ | refine cq (head) ?_ | refine eqk rfl ?_ | refine ffin _ rfl rfl hS (Sub.refl _) rfl ⟨?_, rfl, rfl⟩)
            all_goals rfl
          | false =>
            refine ACalls.fgo c3 rfl fun hS => ?_
            repeat' first | with_reducible refine fzD_ite (fun q => ?_) (fun q => ?_) | ((try conv => whnf); first | refine bs_f (decide_eq_false (show ¬ ((i64s p.days).length : Int) > 20 by omega)) ?_ | refine bs_f (decide_eq_false he0) ?_ | refine bs_t (decide_eq_true rfl) ?_ | refine bs_t (decide_eq_true hlt) ?_ | refine bs_f (decide_eq_false h4) ?_ | refine bs_and ?_ | refine bs_d (fun q => ?_) (fun q => ?_) | refine bs_n ?_ | refine bs_i (fun q => ?_) (fun q => ?_) | refine ckz (s1) ?_ | refine cq (s1) ?_ | refine ckz (s2) ?_ | refine cq (s2) ?_ | refine ckz (s3) ?_ | refine cq (s3) ?_ | refine ckz (l1) ?_ | refine cq (l1) ?_ | refine ckz (l2) ?_ | refine cq (l2) ?_ | refine ckz (sameZ) ?_ | refine cq (sameZ) ?_ | refine ckz (head) ?_ | refine cq (head) ?_ | refine eqk rfl ?_ | refine ffin _ rfl rfl hS (Sub.refl _) rfl ⟨?_, rfl, rfl⟩)
            all_goals rfl
      · cases b with
        | true =>
          refine ACalls.fgo c3 rfl fun hS => ?_
          repeat' first | with_reducible refine fzD_ite (fun q => ?_) (fun q => ?_) | ((try conv => whnf); first | refine bs_f (decide_eq_false (show ¬ ((i64s p.days).length : Int) > 20 by omega)) ?_ | refine bs_f (decide_eq_false he0) ?_ | refine bs_t (decide_eq_true rfl) ?_ | refine bs_f (decide_eq_false hlt) ?_ | refine bs_and ?_ | refine bs_d (fun q => ?_) (fun q => ?_) | refine bs_n ?_ | refine bs_i (fun q => ?_) (fun q => ?_) | refine ckz (s1) ?_ | refine cq (s1) ?_ | refine ckz (s2) ?_ | refine cq (s2) ?_ | refine ckz (l1) ?_ | refine cq (l1) ?_ | refine ckz (l2) ?_ | refine cq (l2) ?_ | refine ckz (sameZ) ?_ | refine cq (sameZ) ?_ | refine ckz (head) ?_ | refine cq (head) ?_ | refine eqk rfl ?_ | refine ffin _ rfl rfl hS (Sub.refl _) rfl ⟨?_, rfl, rfl⟩)
          all_goals rfl
        | false =>
          refine ACalls.fgo c3 rfl fun hS => ?_
          repeat' first | with_reducible refine fzD_ite (fun q => ?_) (fun q => ?_) | ((try conv => whnf); first | refine bs_f (decide_eq_false (show ¬ ((i64s p.days).length : Int) > 20 by omega)) ?_ | refine bs_f (decide_eq_false he0) ?_ | refine bs_t (decide_eq_true rfl) ?_ | refine bs_f (decide_eq_false hlt) ?_ | refine bs_and ?_ | refine bs_d (fun q => ?_) (fun q => ?_) | refine bs_n ?_ | refine bs_i (fun q => ?_) (fun q => ?_) | refine ckz (s1) ?_ | refine cq (s1) ?_ | refine ckz (s2) ?_ | refine cq (s2) ?_ | refine ckz (l1) ?_ | refine cq (l1) ?_ | refine ckz (l2) ?_ | refine cq (l2) ?_ | refine ckz (sameZ) ?_ | refine cq (sameZ) ?_ | refine ckz (head) ?_ | refine cq (head) ?_ | refine eqk rfl ?_ | refine ffin _ rfl rfl hS (Sub.refl _) rfl ⟨?_, rfl, rfl⟩)
          all_goals rfl
    · rw [h1] at s1 s2
      refine ACalls.fgo c3 rfl fun hS => ?_
      repeat' first | with_reducible refine fzD_ite (fun q => ?_) (fun q => ?_) | ((try conv => whnf); first | refine bs_f (decide_eq_false (show ¬ ((i64s p.days).length : Int) > 20 by omega)) ?_ | refine bs_f (decide_eq_false he0) ?_ | refine bs_t (decide_eq_true rfl) ?_ | refine bs_and ?_ | refine bs_d (fun q => ?_) (fun q => ?_) | refine bs_n ?_ | refine bs_i (fun q => ?_) (fun q => ?_) | refine ckz (s1) ?_ | refine cq (s1) ?_ | refine ckz (s2) ?_ | refine cq (s2) ?_ | refine ckz (l1) ?_ | refine cq (l1) ?_ | refine ckz (l2) ?_ | refine cq (l2) ?_ | refine ckz (sameZ) ?_ | refine cq (sameZ) ?_ | refine ckz (head) ?_ | refine cq (head) ?_ | refine eqk rfl ?_ | refine ffin _ rfl rfl hS (Sub.refl _) rfl ⟨?_, rfl, rfl⟩)
      all_goals rfl
open Go Go.KL Go.RowKit Go.Proofs Go.Proofs.YtjjdfplonbgpbaaDoor Go.ChangeShapes Go.WideShapes
theorem own : ownKnob Tryd.prog.godebug = none := by kernel_rfl
theorem laidOut : laidOutB Tryd.prog = true := by kernel_rfl

def shInv : Sh := .agg [.int .u64, .int .u64, .int .u64, .int .i64, .int .i64, .int .i64, .int .i64, .int .i64, .int .i64, .int .i64, .int .i64]
def shDn : Sh := .agg [.int .u64, .int .i64, .int .i64]
def shPo : Sh := .agg [.sl (.int .i64), .int .i64]
theorem shapeB : (shape Tryd.prog 30 112) = some (.agg (List.replicate 4 (.int .i64))) := by kernel_rfl

theorem ok_inv {H : Type} {d : DataW H} (h : shInv.ok d) : ∃ x : Iv, x.R ∧ shInv.cells d = x.cs := by
  obtain ⟨parts, rfl, d1, _, rfl, ⟨n1, rfl, w1⟩, d2, _, rfl, ⟨n2, rfl, w2⟩, d3, _, rfl, ⟨n3, rfl, w3⟩, d4, _, rfl, ⟨n4, rfl, w4⟩, d5, _, rfl, ⟨n5, rfl, w5⟩, d6, _, rfl, ⟨n6, rfl, w6⟩, d7, _, rfl, ⟨n7, rfl, w7⟩, d8, _, rfl, ⟨n8, rfl, w8⟩, d9, _, rfl, ⟨n9, rfl, w9⟩, d10, _, rfl, ⟨n10, rfl, w10⟩, d11, _, rfl, ⟨n11, rfl, w11⟩, rfl⟩ := h
  exact ⟨⟨n1, n2, n3, n4, n5, n6, n7, n8, n9, n10, n11⟩, ⟨ok_u64 w1, ok_u64 w2, ok_u64 w3, ok_i64 w4, ok_i64 w5, ok_i64 w6, ok_i64 w7, ok_i64 w8, ok_i64 w9, ok_i64 w10, ok_i64 w11⟩, rfl⟩
theorem ok_dn {H : Type} {d : DataW H} (h : shDn.ok d) : ∃ x : Dn, (U64 x.inv ∧ I64 x.st ∧ I64 x.si) ∧ shDn.cells d = x.cs := by
  obtain ⟨parts, rfl, d1, _, rfl, ⟨n1, rfl, w1⟩, d2, _, rfl, ⟨n2, rfl, w2⟩, d3, _, rfl, ⟨n3, rfl, w3⟩, rfl⟩ := h
  exact ⟨⟨n1, n2, n3⟩, ⟨ok_u64 w1, ok_i64 w2, ok_i64 w3⟩, rfl⟩
theorem ok_po {H : Type} {d : DataW H} (h : shPo.ok d) : ∃ p : Po, ((∀ n ∈ p.days, I64 n) ∧ I64 p.lose) ∧ shPo.cells d = [.sl (i64s p.days), .int .i64 p.lose] := by
  obtain ⟨parts, rfl, d1, _, rfl, h1, d2, _, rfl, ⟨n2, rfl, w2⟩, rfl⟩ := h
  obtain ⟨l, hl, hll, hc⟩ := ok_sl (R := I64) (C := fun n => [.int .i64 n]) (fun d (h : (Sh.int .i64).ok d) => by obtain ⟨n, rfl, w⟩ := h; exact ⟨n, ok_i64 w, rfl⟩) h1
  refine ⟨⟨l, n2⟩, ⟨hl, ok_i64 w2⟩, ?_⟩
  show (Sh.sl (.int .i64)).cells d1 ++ _ = _
  rw [hc]; rfl
theorem bounds_g : Tryd.prog.globalNamed "quittance/invoices.bounds" = some 0 := by kernel_rfl
theorem bounds_t : (Tryd.prog.globals[0]?).map (·.type) = some 112 := by kernel_rfl
theorem gok {W : World} (h : laidMetH Tryd.prog [("quittance/invoices.bounds", Rows.laid_quittance_invoices_bounds)] W) : GRel E0 (cfgW W) := by
  have h' : laidMet Tryd.prog [("quittance/invoices.bounds", Rows.laid_quittance_invoices_bounds)] W := h
  obtain ⟨ps, ⟨g, t, cs, fuel, p, q, e1, e2, e3, e4, _⟩, _⟩ := h'
  rw [bounds_g] at e1
  obtain rfl := Option.some.inj e1
  rw [bounds_t] at e2
  obtain rfl := Option.some.inj e2
  have hv := (shOk Tryd.prog (fun _ => ()) W (fun _ => true) false 30 112 _ shapeB fuel cs.toList _ p e4).1
  intro g' e he
  have hg : g' = 0 ∧ e = [.int .i64 0, .int .i64 30, .int .i64 60, .int .i64 90] := by
    simp only [E0] at he
    split at he
    · rename_i h0; exact ⟨h0, (Option.some.inj he).symm⟩
    · cases he
  obtain ⟨rfl, rfl⟩ := hg
  exact gvar bounds_g e3 hv

noncomputable def laidWorld (os : Os) : World :=
  let w0 := World.holding Tryd.prog os ⟨#[], #[], []⟩
  { w0 with heap := w0.heap.modify 0 fun
      | .cells _ t frozen => .cells #[.int .i64 0, .int .i64 30, .int .i64 60, .int .i64 90] t frozen
      | o => o }
theorem laidWorld_met (os : Os) (args : Array Value) : laidMetH Tryd.prog [("quittance/invoices.bounds", Rows.laid_quittance_invoices_bounds)] ((laidWorld os).forCall (fun _ _ => 0) ⟨#[], args, []⟩).memory :=
  show laidMet _ _ _ from laidMet_of_run (ps := MemPlace.row ⟨0, 0, none⟩ 4) 8 (by kernel_rfl) (by kernel_rfl) (by kernel_rfl)

def zeroAsked : Value := .agg #[.slice none 0 0, .int .i64 0, .slice none 0 0, .slice none 0 0, .int .i64 0]
end Go.KL.YtjjdfplonbgpbaaDoor.U
