/- journal.Check: of any entry (without what Tidy and Put want) -/
import Derived.Test.YtkojphmejddhiaaGreatDoorBa
import Derived.Test.YtkojphmejddhiaaGreatDoorKy
import Derived.Test.YtkojphmejddhiaaGreatDoorBc
set_option linter.unusedVariables false
set_option linter.unusedSimpArgs false
set_option linter.unusedSectionVars false
set_option maxRecDepth 4000
namespace Go.KL.YtkojphmejddhiaaGreatDoor
open Go Go.KL Go.RowKit Go.Proofs
theorem c84 : cFun E0.P 84 = some ⟨26, [(2, none)], .seq (.rg [⟨some 1, none, .box (.t 0) 85⟩, ⟨some 2, none, .mv (.k (.bool false))⟩]) (.seq (.rg [⟨some 3, none, .fa 0 (.t 1)⟩, ⟨some 4, none, .ld 1 false (.t 3)⟩, ⟨some 5, none, .bin .geq .leaf (.t 4) (.k (.int .i64 1))⟩, ⟨some 6, none, .mv (.t 5)⟩, ⟨some 7, some (6, true), .fa 0 (.t 1)⟩, ⟨some 8, some (6, true), .ld 1 false (.t 7)⟩, ⟨some 9, some (6, true), .bin .leq .leaf (.t 8) (.k (.int .i64 9999))⟩, ⟨some 10, none, .pick (.t 6) (.t 9) (.k (.bool false))⟩, ⟨some 11, none, .mv (.t 10)⟩, ⟨some 12, some (11, true), .fa 3 (.t 1)⟩, ⟨some 13, some (11, true), .ld 1 false (.t 12)⟩, ⟨some 14, some (11, true), .bin .neq .leaf (.t 13) (.k (.int .i64 0))⟩, ⟨some 15, none, .pick (.t 11) (.t 14) (.k (.bool false))⟩, ⟨some 16, none, .mv (.t 15)⟩, ⟨some 17, some (16, true), .fa 3 (.t 1)⟩, ⟨some 18, some (16, true), .ld 1 false (.t 17)⟩, ⟨some 19, some (16, true), .bin .geq .leaf (.t 18) (.k (.int .i64 (-4611686018427387904)))⟩, ⟨some 20, none, .pick (.t 16) (.t 19) (.k (.bool false))⟩, ⟨some 21, none, .mv (.t 20)⟩, ⟨some 22, some (21, true), .fa 3 (.t 1)⟩, ⟨some 23, some (21, true), .ld 1 false (.t 22)⟩, ⟨some 24, some (21, true), .bin .leq .leaf (.t 23) (.k (.int .i64 4611686018427387904))⟩, ⟨some 25, none, .pick (.t 21) (.t 24) (.k (.bool false))⟩, ⟨some 2, none, .mv (.t 25)⟩]) .ret)⟩ := by kernel_rfl
theorem may (x : Ln) : Pure 84 [x.d] (.bool (decide x.may)) := by
  intro S tk
  refine ACalls.fgo c84 rfl fun hS => ?_
  repeat' first | with_reducible refine fzD_ite (fun q => ?_) (fun q => ?_) | ((try conv => whnf); first | refine bs_d (fun q => ?_) (fun q => ?_) | refine bs_n ?_ | refine bs_i (fun q => ?_) (fun q => ?_) | refine eqk rfl ?_ | refine ffin _ rfl rfl hS (Sub.refl _) rfl ⟨?_, rfl, rfl⟩)
  all_goals
    simp only [tupD, D.bool.injEq, Ln.may, Bool.true_eq, Bool.false_eq, decide_eq_true_eq, decide_eq_false_iff_not, decide_eq_decide]
    first
      | exact decide_eq_true (by omega)
      | exact decide_eq_false (by omega)

end Go.KL.YtkojphmejddhiaaGreatDoor
namespace Go.KL.YtkojphmejddhiaaGreatDoor.J
open Go Go.KL Go.RowKit Go.Proofs Go.KL.YtkojphmejddhiaaGreatDoor

theorem c85 : cFun E0.P 85 = some ⟨29, [(4, none), (5, none)], .seq (.rg [⟨some 4, none, .mv (.k (.int .i64 0))⟩, ⟨some 5, none, .mv (.k (.bool false))⟩]) (.seq (.rg [⟨some 6, none, .mv (.k .nilsl)⟩]) (.seq (.seq (.rg [⟨some 9, none, .mv (.t 0)⟩, ⟨some 10, none, .len 1 (.t 9)⟩, ⟨some 11, none, .mv (.k (.int .i64 0))⟩]) (.block 0 (.loop (.seq (.rg [⟨some 12, none, .bin .lss .leaf (.t 11) (.t 10)⟩]) (.seq (.cond (.t 12) .skip (.exit 0)) (.seq (.block 1 (.seq (.rg [⟨some 13, none, .ia 4 (.t 9) (.t 11)⟩, ⟨some 14, none, .ld 4 true (.t 13)⟩, ⟨some 8, none, .alloc [.int .i64 0, .int .u64 0, .int .u64 0, .int .i64 0] 85⟩, ⟨none, none, .st 4 (.t 8) (.t 14)⟩]) (.seq (.rg [⟨some 15, none, .mv (.t 1)⟩, ⟨some 16, none, .fa 3 (.t 8)⟩, ⟨some 17, none, .ld 1 false (.t 16)⟩, ⟨some 18, none, .callv (.t 15) [.t 17]⟩]) (.cond (.t 18) (.rg [⟨some 19, none, .mv (.t 6)⟩, ⟨some 20, none, .fa 3 (.t 8)⟩, ⟨some 21, none, .ld 1 false (.t 20)⟩, ⟨some 22, none, .buildS 1 1 [.int .i64 0] [(0, .t 21)] 2⟩, ⟨some 23, none, .app 102 2 1 8 [.int .i64 0] (.t 19) (.t 22)⟩, ⟨some 6, none, .mv (.t 23)⟩]) .skip)))) (.rg [⟨some 24, none, .bin .add .leaf (.t 11) (.k (.int .i64 1))⟩, ⟨some 11, none, .mv (.t 24)⟩]))))))) (.seq (.rg [⟨some 25, none, .mv (.t 6)⟩, ⟨some 26, none, .call 50 [.t 25]⟩, ⟨some 27, none, .ext 0 (.t 26)⟩, ⟨some 28, none, .ext 1 (.t 26)⟩, ⟨some 4, none, .mv (.t 27)⟩, ⟨some 5, none, .mv (.t 28)⟩]) .ret)))⟩ := by kernel_rfl
theorem c86 : cFun E0.P 86 = some ⟨3, [(2, none)], .seq (.rg [⟨some 2, none, .mv (.k (.bool false))⟩]) (.seq (.rg [⟨some 2, none, .mv (.k (.bool true))⟩]) .ret)⟩ := by kernel_rfl
theorem c74 : cFun E0.P 74 = some ⟨55, [(2, none)], .seq (.rg [⟨some 1, none, .box (.t 0) 35⟩, ⟨some 2, none, .mv (.k (.int .i64 0))⟩]) (.seq (.seq (.rg [⟨some 7, none, .fa 0 (.t 1)⟩, ⟨some 8, none, .ld 1 false (.t 7)⟩, ⟨some 9, none, .bin .lss .leaf (.t 8) (.k (.int .i64 1))⟩, ⟨some 10, none, .mv (.t 9)⟩, ⟨some 11, some (10, false), .fa 0 (.t 1)⟩, ⟨some 12, some (10, false), .ld 1 false (.t 11)⟩, ⟨some 13, some (10, false), .bin .gtr .leaf (.t 12) (.k (.int .i64 3652059))⟩, ⟨some 14, none, .pick (.t 10) (.k (.bool true)) (.t 13)⟩, ⟨some 15, none, .mv (.t 14)⟩, ⟨some 16, some (15, false), .fa 1 (.t 1)⟩, ⟨some 17, some (15, false), .ld 1 false (.t 16)⟩, ⟨some 18, some (15, false), .bin .eql .leaf (.t 17) (.k (.int .u8 0))⟩, ⟨some 19, none, .pick (.t 15) (.k (.bool true)) (.t 18)⟩, ⟨some 20, none, .mv (.t 19)⟩, ⟨some 21, some (20, false), .fa 3 (.t 1)⟩, ⟨some 22, some (20, false), .ld 1 false (.t 21)⟩, ⟨some 23, some (20, false), .len 1 (.t 22)⟩, ⟨some 24, some (20, false), .bin .lss .leaf (.t 23) (.k (.int .i64 2))⟩, ⟨some 25, none, .pick (.t 20) (.k (.bool true)) (.t 24)⟩, ⟨some 26, none, .mv (.t 25)⟩, ⟨some 27, some (26, false), .fa 3 (.t 1)⟩, ⟨some 28, some (26, false), .ld 1 false (.t 27)⟩, ⟨some 29, some (26, false), .len 1 (.t 28)⟩, ⟨some 30, some (26, false), .bin .gtr .leaf (.t 29) (.k (.int .i64 64))⟩, ⟨some 31, none, .pick (.t 26) (.k (.bool true)) (.t 30)⟩]) (.cond (.t 31) (.seq (.rg [⟨some 2, none, .mv (.k (.int .i64 2))⟩]) .ret) .skip)) (.seq (.seq (.rg [⟨some 32, none, .fa 3 (.t 1)⟩, ⟨some 33, none, .ld 1 false (.t 32)⟩, ⟨some 34, none, .len 1 (.t 33)⟩, ⟨some 35, none, .mv (.k (.int .i64 0))⟩]) (.block 0 (.loop (.seq (.rg [⟨some 36, none, .bin .lss .leaf (.t 35) (.t 34)⟩]) (.seq (.cond (.t 36) .skip (.exit 0)) (.seq (.block 1 (.seq (.rg [⟨some 37, none, .ia 4 (.t 33) (.t 35)⟩, ⟨some 38, none, .ld 4 true (.t 37)⟩, ⟨some 4, none, .alloc [.int .i64 0, .int .u64 0, .int .u64 0, .int .i64 0] 85⟩, ⟨none, none, .st 4 (.t 4) (.t 38)⟩]) (.seq (.rg [⟨some 39, none, .ld 4 true (.t 4)⟩, ⟨some 40, none, .call 84 [.t 39]⟩, ⟨some 41, none, .un .not (.t 40)⟩]) (.cond (.t 41) (.seq (.rg [⟨some 2, none, .mv (.k (.int .i64 2))⟩]) .ret) .skip)))) (.rg [⟨some 42, none, .bin .add .leaf (.t 35) (.k (.int .i64 1))⟩, ⟨some 35, none, .mv (.t 42)⟩]))))))) (.seq (.seq (.rg [⟨some 44, none, .fa 3 (.t 1)⟩, ⟨some 45, none, .ld 1 false (.t 44)⟩, ⟨some 46, none, .call 85 [.t 45, .k (.fn 86 [])]⟩, ⟨some 43, none, .mv (.t 46)⟩, ⟨some 47, none, .ext 0 (.t 43)⟩, ⟨some 48, none, .ext 1 (.t 43)⟩, ⟨some 5, none, .mv (.t 47)⟩, ⟨some 6, none, .mv (.t 48)⟩]) (.seq (.rg [⟨some 49, none, .mv (.t 5)⟩, ⟨some 50, none, .bin .neq .leaf (.t 49) (.k (.int .i64 0))⟩, ⟨some 51, none, .mv (.t 50)⟩, ⟨some 52, some (51, false), .mv (.t 6)⟩, ⟨some 53, some (51, false), .un .not (.t 52)⟩, ⟨some 54, none, .pick (.t 51) (.k (.bool true)) (.t 53)⟩]) (.cond (.t 54) (.seq (.rg [⟨some 2, none, .mv (.k (.int .i64 200))⟩]) .ret) .skip))) (.seq (.rg [⟨some 2, none, .mv (.k (.int .i64 0))⟩]) .ret))))⟩ := by kernel_rfl
theorem ffinVP {E : Env} {n0 m0 : Nat} {S J : List O} {T TK : Tks} {d d' : D} {k sz : Nat} {es : List (List D)} {e : TypeId} {Post : D → List O → Tks → Prop} (hn : S.length = n0) (hm : T.length = m0) (hS : OSc n0 m0 S) (hJ : J[k]? = some (.vec es e sz)) (hf : VFrz (n0 + k) es d d') (hsc : d'.sc n0 m0 = true) (hp : Post d' S T) : FFin E n0 m0 S J T TK d Post := by
  refine ⟨d', _, _, ?_, hp⟩
  have h1 := Shift.vfreeze (E := E) (n0 := n0) (m0 := m0) (fr := [(0, d)]) (fr' := [(0, d')]) (S := S ++ J) (tk := T ++ TK) (at_own hn hJ) (t := 0) (d' := d') hf ⟨by simp [KL.get]; exact Sub.refl _, trivial⟩
  rw [set_own hn] at h1
  refine h1.trans ?_
  exact Shift.drop ⟨by simp [KL.get]; exact Sub.refl _, trivial⟩ (Nat.le_of_eq hn.symm) (Nat.le_of_eq hm.symm) (by rw [hn, hm]; simp [frSc, hsc]) (by rw [hn, hm]; exact hS)
theorem vfrzP {id sz : Nat} {es : List (List D)} {x : D} : VFrz id es (.tup [.vec id es.length sz, x]) (.tup [.sl es, x]) := by
  refine .tup rfl fun j d d' h1 h2 => ?_
  match j with
  | 0 => simp at h1 h2; subst h1; subst h2; exact .vec sz
  | 1 => simp at h1 h2; subst h1; subst h2; exact .refl _
  | j + 2 => simp at h1

theorem scL_i64s (n m : Nat) : ∀ l : List Int, scLL n m (i64s l) = true
  | [] => rfl
  | x :: l => by
    have h := scL_i64s n m l
    unfold i64s at h ⊢
    simp only [List.map_cons, scLL, h, Bool.and_true]; rfl

theorem take_snA {α : Type} [Inhabited α] {l : List α} {i : Nat} (h : i < l.length) : l.take (i + 1) = l.take i ++ [l[i]!] := by
  rw [List.take_add_one, List.getElem?_eq_getElem h, getElem!_pos l i h]; rfl
theorem mem_at {α : Type} [Inhabited α] {l : List α} {i : Nat} (h : i < l.length) : l[i]! ∈ l := by rw [getElem!_pos l i h]; exact List.getElem_mem h
theorem iaD_ln {l : List Ln} {i : Nat} {n : Int} (h : n = i) (hi : i < l.length) : iaD 4 (.sl (lns l)) (.int .i64 n) = some (.pe (l[i]!).cs 0) := by
  subst h
  exact iaD_map (f := Ln.cs) (by omega) (by rw [Int.toNat_natCast, List.getElem?_eq_getElem hi, getElem!_pos l i hi]) rfl
structure Ent where
  day : Int
  kind : Int
  src : Int
  L : List Ln
def Ent.d (e : Ent) : D := .agg [.int .i64 e.day, .int .u8 e.kind, .int .u64 e.src, .sl (lns e.L)]
structure Ent.R (e : Ent) : Prop where
  day : I64 e.day
  kind : 0 ≤ e.kind ∧ e.kind < 256
  src : U64 e.src
  L : ∀ x ∈ e.L, x.R
def Ent.hd (e : Ent) : Prop := 1 ≤ e.day ∧ e.day ≤ 3652059 ∧ e.kind ≠ 0 ∧ 2 ≤ e.L.length ∧ e.L.length ≤ 64
instance (e : Ent) : Decidable e.hd := by unfold Ent.hd; infer_instance
def Ent.chk (e : Ent) : Int := if e.hd ∧ ∀ x ∈ e.L, x.may then (if (e.L.map Ln.amt).sum = 0 then 0 else 200) else 2
theorem chk1 (n : Int) : Pure 86 [.int .i64 n] (.bool true) := by
  intro S tk
  refine ACalls.fgo c86 rfl fun hS => ?_
  repeat' first | with_reducible refine fzD_ite (fun q => ?_) (fun q => ?_) | ((try conv => whnf); first | refine bs_d (fun q => ?_) (fun q => ?_) | refine bs_n ?_ | refine bs_i (fun q => ?_) (fun q => ?_) | refine eqk rfl ?_ | refine ffin _ rfl rfl hS (Sub.refl _) rfl ⟨?_, rfl, rfl⟩)
  all_goals rfl
theorem jsum (L : List Ln) (hl : L.length < 1000000) (hR : ∀ x ∈ L, x.R) : Pure 85 [.sl (lns L), .fn 86 []] (sumS (L.map Ln.amt)) := by
  intro S tk
  have hlen := lns_len L
  have hsum := Sum (L.map Ln.amt) (by simp; omega) (fun n hn => by obtain ⟨x, hx, rfl⟩ := List.mem_map.1 hn; exact (hR x hx).amt)
  refine ACalls.fgo c85 rfl fun hS => ?_
  repeat' first | with_reducible refine fzD_ite (fun q => ?_) (fun q => ?_) | ((try conv => whnf); first | refine bs_d (fun q => ?_) (fun q => ?_) | refine bs_n ?_ | refine bs_i (fun q => ?_) (fun q => ?_) | refine eqk rfl ?_ | refine ffin _ rfl rfl hS (Sub.refl _) rfl ⟨?_, rfl, rfl⟩)
  refine floop (α := Nat) rfl rfl hS (fun i => i ≤ L.length) (fun i => L.length - i) (fun i => [(11, .d (.int .i64 i)), (10, .d (.int .i64 L.length)), (9, .d (.sl (lns L))), (1, .d (.fn 86 [])), (6, .d (.gsl (i64s ((L.take i).map Ln.amt)) (tk.length + 0)))]) (fun _ => []) (fun i => [((i64s ((L.take i).map Ln.amt)).length, 2, 1)]) 0 (Nat.zero_le _) (fstep_tok 2 1 (t := 6) (.inl rfl) ⟨Sub.refl _, Sub.int (by rw [hlen]), Sub.refl _, Sub.refl _, Sub.refl _, trivial⟩) ?_
  intro i hi
  by_cases hlt : i < L.length
  · have hgl : i64s ((L.take i).map Ln.amt) ++ [[.int .i64 L[i]!.amt]] = i64s ((L.take (i + 1)).map Ln.amt) := by rw [take_snA hlt]; simp [i64s]
    repeat' first | with_reducible refine fzD_ite (fun q => ?_) (fun q => ?_) | ((try conv => whnf); first | refine bs_t (decide_eq_true (by omega)) ?_ | refine bs_t (rfl : callOK E0.P 86 = true) ?_ | refine bs_d (fun q => ?_) (fun q => ?_) | refine bs_n ?_ | refine bs_i (fun q => ?_) (fun q => ?_) | refine pK_i (iaD_ln (i := i) rfl hlt) ?_ | refine ckz (chk1 _) ?_ | refine cq (chk1 _) ?_ | (refine gk_app (t := 0) (src := [[.int .i64 L[i]!.amt]]) rfl rfl (by rfl) (by rfl) (by rfl) (by simp) (by rw [i64s_len, List.length_map, List.length_take]; simp [maxLen]; omega) ?_; rw [hgl]) | refine eqk rfl ?_ | refine ffin _ rfl rfl hS (Sub.refl _) rfl ⟨?_, rfl, rfl⟩)
    conv => whnf
    exact fnext (α := Nat) (i + 1) (by omega) (by omega) (fstep_drop (J' := []) (Jx := [_]) (TK' := [_]) (TKx := []) rfl rfl ⟨Sub.int (by first | rfl | omega | (refine Int.sub_eq_zero.mp ?_; simp (disch := ((try unfold I64); omega)) only [wi64_id, td]; omega)), Sub.refl _, Sub.refl _, Sub.refl _, Sub.refl _, trivial⟩ (by simp [frD, FD.to, frSc, D.sc, scLL_lns, scL, scL_i64s]) rfl)
  · obtain rfl : i = L.length := by omega
    rw [List.take_length]
    by_cases hf : -9223372036854775808 ≤ (L.map Ln.amt).sum ∧ (L.map Ln.amt).sum < 9223372036854775808
    · rw [sumS, if_pos hf] at hsum ⊢
      repeat' first | with_reducible refine fzD_ite (fun q => ?_) (fun q => ?_) | ((try conv => whnf); first | refine bs_f (decide_eq_false (by omega)) ?_ | refine bs_d (fun q => ?_) (fun q => ?_) | refine bs_n ?_ | refine bs_i (fun q => ?_) (fun q => ?_) | refine ckS (by first | rfl | simp) rfl hsum (.cons (Sub.rd rfl) .nil) ?_ | refine eqk rfl ?_ | refine ffin _ rfl rfl hS (Sub.refl _) rfl ⟨?_, rfl, rfl⟩)
      all_goals rfl
    · rw [sumS, if_neg hf] at hsum ⊢
      repeat' first | with_reducible refine fzD_ite (fun q => ?_) (fun q => ?_) | ((try conv => whnf); first | refine bs_f (decide_eq_false (by omega)) ?_ | refine bs_d (fun q => ?_) (fun q => ?_) | refine bs_n ?_ | refine bs_i (fun q => ?_) (fun q => ?_) | refine ckS (by first | rfl | simp) rfl hsum (.cons (Sub.rd rfl) .nil) ?_ | refine eqk rfl ?_ | refine ffin _ rfl rfl hS (Sub.refl _) rfl ⟨?_, rfl, rfl⟩)
      all_goals rfl
theorem Check (e : Ent) (hR : e.R) : Pure 74 [e.d] (.int .i64 e.chk) := by
  intro S tk
  have hlen := lns_len e.L
  by_cases hh : e.hd
  rotate_left
  · rw [Ent.chk, if_neg (fun h => hh h.1)]
    unfold Ent.hd at hh
    by_cases d1 : e.day < 1
    · refine ACalls.fgo c74 rfl fun hS => ?_
      repeat' first | with_reducible refine fzD_ite (fun q => ?_) (fun q => ?_) | ((try conv => whnf); first | refine bs_t (decide_eq_true d1) ?_ | refine bs_d (fun q => ?_) (fun q => ?_) | refine bs_n ?_ | refine bs_i (fun q => ?_) (fun q => ?_) | refine eqk rfl ?_ | refine ffin _ rfl rfl hS (Sub.refl _) rfl ⟨?_, rfl, rfl⟩)
      all_goals rfl
    · refine ACalls.fgo c74 rfl fun hS => ?_
      repeat' first | with_reducible refine fzD_ite (fun q => ?_) (fun q => ?_) | ((try conv => whnf); first | refine bs_f (decide_eq_false d1) ?_ | refine bs_d (fun q => ?_) (fun q => ?_) | refine bs_n ?_ | refine bs_i (fun q => ?_) (fun q => ?_) | refine eqk rfl ?_ | refine ffin _ rfl rfl hS (Sub.refl _) rfl ⟨?_, rfl, rfl⟩)
      all_goals first | rfl | (exfalso; omega)
  have hh' := hh
  unfold Ent.hd at hh'
  have hsm := jsum e.L (by omega) hR.L
  refine ACalls.fgo c74 rfl fun hS => ?_
  repeat' first | with_reducible refine fzD_ite (fun q => ?_) (fun q => ?_) | ((try conv => whnf); first | refine bs_f (decide_eq_false (by omega)) ?_ | refine bs_d (fun q => ?_) (fun q => ?_) | refine bs_n ?_ | refine bs_i (fun q => ?_) (fun q => ?_) | refine eqk rfl ?_ | refine ffin _ rfl rfl hS (Sub.refl _) rfl ⟨?_, rfl, rfl⟩)
  conv => whnf
  refine floop (α := Nat) rfl rfl hS (fun i => i ≤ e.L.length ∧ ∀ x ∈ e.L.take i, x.may) (fun i => e.L.length - i) (fun i => [(35, .d (.int .i64 i)), (34, .d (.int .i64 e.L.length)), (33, .d (.sl (lns e.L))), (1, .lp 0 0)]) (fun _ => [.arr [.int .i64 e.day, .int .u8 e.kind, .int .u64 e.src, .sl (lns e.L)]]) (fun _ => []) 0 ⟨Nat.zero_le _, by simp⟩ (fstep_sub ⟨Sub.refl _, Sub.int (by rw [hlen]), Sub.refl _, Sub.refl _, trivial⟩) ?_
  rintro i ⟨hi, hm⟩
  by_cases hlt : i < e.L.length
  · have hmy := may e.L[i]!
    by_cases hy : e.L[i]!.may
    · rw [decide_eq_true hy] at hmy
      repeat' first | with_reducible refine fzD_ite (fun q => ?_) (fun q => ?_) | ((try conv => whnf); first | refine bs_t (decide_eq_true (by omega)) ?_ | refine bs_d (fun q => ?_) (fun q => ?_) | refine bs_n ?_ | refine bs_i (fun q => ?_) (fun q => ?_) | refine pK_i (iaD_ln (i := i) rfl hlt) ?_ | refine ckz (hmy) ?_ | refine cq (hmy) ?_ | refine eqk rfl ?_ | refine ffin _ rfl rfl hS (Sub.refl _) rfl ⟨?_, rfl, rfl⟩)
      conv => whnf
      refine fnext (α := Nat) (i + 1) ⟨by omega, fun x hx => ?_⟩ (by omega) (fstep_drop (J' := [_]) (Jx := [_]) (TK' := []) (TKx := []) rfl rfl ⟨Sub.int (by first | rfl | omega | (refine Int.sub_eq_zero.mp ?_; simp (disch := ((try unfold I64); omega)) only [wi64_id, td]; omega)), Sub.refl _, Sub.refl _, Sub.refl _, trivial⟩ (by simp [frD, FD.to, frSc, D.sc, scLL_lns]) (by simp [oScL, oSc, scL, D.sc, scLL_lns]))
      rw [take_snA hlt, List.mem_append, List.mem_singleton] at hx
      rcases hx with hx | rfl
      · exact hm x hx
      · exact hy
    · rw [decide_eq_false hy] at hmy
      rw [Ent.chk, if_neg (fun h => hy (h.2 _ (mem_at hlt)))]
      repeat' first | with_reducible refine fzD_ite (fun q => ?_) (fun q => ?_) | ((try conv => whnf); first | refine bs_t (decide_eq_true (by omega)) ?_ | refine bs_d (fun q => ?_) (fun q => ?_) | refine bs_n ?_ | refine bs_i (fun q => ?_) (fun q => ?_) | refine pK_i (iaD_ln (i := i) rfl hlt) ?_ | refine ckz (hmy) ?_ | refine cq (hmy) ?_ | refine eqk rfl ?_ | refine ffin _ rfl rfl hS (Sub.refl _) rfl ⟨?_, rfl, rfl⟩)
      all_goals rfl
  · rw [List.take_of_length_le (by omega)] at hm
    rw [Ent.chk, if_pos ⟨hh, hm⟩]
    by_cases hz : (e.L.map Ln.amt).sum = 0
    · rw [if_pos hz]
      rw [sumS, if_pos (by omega)] at hsm
      repeat' first | with_reducible refine fzD_ite (fun q => ?_) (fun q => ?_) | ((try conv => whnf); first | refine bs_f (decide_eq_false (by omega)) ?_ | refine bs_t (decide_eq_true hz) ?_ | refine bs_d (fun q => ?_) (fun q => ?_) | refine bs_n ?_ | refine bs_i (fun q => ?_) (fun q => ?_) | refine ckz (hsm) ?_ | refine cq (hsm) ?_ | refine eqk rfl ?_ | refine ffin _ rfl rfl hS (Sub.refl _) rfl ⟨?_, rfl, rfl⟩)
      all_goals rfl
    · rw [if_neg hz]
      by_cases hf : -9223372036854775808 ≤ (e.L.map Ln.amt).sum ∧ (e.L.map Ln.amt).sum < 9223372036854775808
      · rw [sumS, if_pos hf] at hsm
        repeat' first | with_reducible refine fzD_ite (fun q => ?_) (fun q => ?_) | ((try conv => whnf); first | refine bs_f (decide_eq_false (by omega)) ?_ | refine bs_f (decide_eq_false hz) ?_ | refine bs_d (fun q => ?_) (fun q => ?_) | refine bs_n ?_ | refine bs_i (fun q => ?_) (fun q => ?_) | refine ckz (hsm) ?_ | refine cq (hsm) ?_ | refine eqk rfl ?_ | refine ffin _ rfl rfl hS (Sub.refl _) rfl ⟨?_, rfl, rfl⟩)
        all_goals rfl
      · rw [sumS, if_neg hf] at hsm
        repeat' first | with_reducible refine fzD_ite (fun q => ?_) (fun q => ?_) | ((try conv => whnf); first | refine bs_f (decide_eq_false (by omega)) ?_ | refine bs_d (fun q => ?_) (fun q => ?_) | refine bs_n ?_ | refine bs_i (fun q => ?_) (fun q => ?_) | refine ckz (hsm) ?_ | refine cq (hsm) ?_ | refine eqk rfl ?_ | refine ffin _ rfl rfl hS (Sub.refl _) rfl ⟨?_, rfl, rfl⟩)
        all_goals rfl
end Go.KL.YtkojphmejddhiaaGreatDoor.J
namespace Go.KL.YtkojphmejddhiaaGreatDoor.J
open Go Go.KL Go.RowKit Go.Proofs Go.KL.YtkojphmejddhiaaGreatDoor
theorem c36 : cFun E0.P 36 = some ⟨8, [(2, none)], .seq (.rg [⟨some 2, none, .mv (.k .nilsl)⟩]) (.seq (.seq (.rg [⟨some 3, none, .mv (.t 0)⟩, ⟨some 4, none, .bin .eql .slice (.t 3) (.k .nilsl)⟩]) (.cond (.t 4) (.seq (.rg [⟨some 2, none, .mv (.k .nilsl)⟩]) .ret) .skip)) (.seq (.rg [⟨some 5, none, .buildS 0 4 [.int .i64 0, .int .u64 0, .int .u64 0, .int .i64 0] [] 85⟩, ⟨some 6, none, .mv (.t 0)⟩, ⟨some 7, none, .app 33 85 4 32 [.int .i64 0, .int .u64 0, .int .u64 0, .int .i64 0] (.t 5) (.t 6)⟩, ⟨some 2, none, .mv (.t 7)⟩]) .ret))⟩ := by kernel_rfl

theorem Ent.chk_0 {e : Ent} (h : e.chk = 0) : e.hd ∧ (∀ x ∈ e.L, x.may) ∧ (e.L.map Ln.amt).sum = 0 := by
  unfold Ent.chk at h
  split at h
  · rename_i h1
    split at h
    · exact ⟨h1.1, h1.2, ‹_›⟩
    · omega
  · omega
def neg (x : Ln) : Ln := { x with amt := -x.amt }
def zeroE : Ent := ⟨0, 0, 0, []⟩
def revE (e : Ent) (day : Int) : Ent := if e.chk = 0 ∧ 1 ≤ day ∧ day ≤ 3652059 then ⟨day, e.kind, e.src, e.L.map neg⟩ else zeroE
def revN (e : Ent) (day : Int) : Int := if e.chk = 0 then if 1 ≤ day ∧ day ≤ 3652059 then 0 else 2 else e.chk
def revS (e : Ent) (day : Int) : D := .tup [(revE e day).d, .int .i64 (revN e day)]
theorem clone_at (L : List Ln) (h0 : L ≠ []) (hl : L.length < 1000000) (S : List O) (tk : Tks) :
    ACalls E0 36 [.sl (lns L)] S tk (fun r S' tk' => r = .vec S.length L.length 4 ∧ S' = S ++ [.vec (lns L) 85 4] ∧ tk' = tk) := by
  have hlen := lns_len L
  have h4 : ∀ s ∈ lns L, s.length = 4 := fun s hs => by obtain ⟨x, _, rfl⟩ := List.mem_map.1 hs; rfl
  refine ACalls.fgo c36 rfl fun hS => ?_
  cases L with
  | nil => exact absurd rfl h0
  | cons a r =>
    repeat' first | with_reducible refine fzD_ite (fun q => ?_) (fun q => ?_) | ((try conv => whnf); first | refine bs_d (fun q => ?_) (fun q => ?_) | refine bs_n ?_ | refine bs_i (fun q => ?_) (fun q => ?_) | refine gk_app0v (src := lns (a :: r)) rfl rfl (.inr rfl) rfl h4 ⟨by rw [hlen]; simp [maxLen] at hl ⊢; omega, by rw [hlen]; omega⟩ ?_ | refine ffinJ ⟨?_, rfl, ?_⟩ | refine eqk rfl ?_ | refine ffin _ rfl rfl hS (Sub.refl _) rfl ⟨?_, rfl, rfl⟩)
    all_goals first | rfl | (simp only [List.append_nil]) | (rw [← hlen]; rfl)
def negP (L : List Ln) (i : Nat) : List Ln := (L.take i).map neg ++ L.drop i
theorem negP_len (L : List Ln) (i : Nat) : (negP L i).length = L.length := by simp [negP]; omega
theorem negP_at {L : List Ln} {i : Nat} (h : i < L.length) : (negP L i)[i]? = some L[i]! := by
  rw [negP, List.getElem?_append_right (by simp; omega), List.length_map, List.length_take, List.getElem?_drop]
  rw [show i + (i - min i L.length) = i by omega, List.getElem?_eq_getElem h, getElem!_pos L i h]
theorem negP_set {L : List Ln} {i : Nat} (h : i < L.length) : (negP L i).set i (neg L[i]!) = negP L (i + 1) := by
  rw [negP, List.set_append_right _ _ (by simp; omega), List.length_map, List.length_take, show i - min i L.length = 0 by omega, List.drop_eq_getElem_cons h, List.set_cons_zero, negP, take_snA h, List.map_append]
  simp
theorem lns_set (L : List Ln) (i : Nat) (x : Ln) : (lns L).set i x.cs = lns (L.set i x) := by rw [lns, lns, List.map_set]
theorem lns_at {L : List Ln} {i : Nat} {x : Ln} (h : L[i]? = some x) : (lns L)[i]? = some x.cs := by rw [lns, List.getElem?_map, h]; rfl
theorem vfrzE {id : Nat} {es : List (List D)} {a b c y : D} {sz : Nat} : VFrz id es (.tup [.agg [a, b, c, .vec id es.length sz], y]) (.tup [.agg [a, b, c, .sl es], y]) := by
  refine .tup rfl fun j d d' h1 h2 => ?_
  match j with
  | 0 =>
    simp at h1 h2; subst h1; subst h2
    refine .agg rfl fun j d d' h1 h2 => ?_
    match j with
    | 0 => simp at h1 h2; subst h1; subst h2; exact .refl _
    | 1 => simp at h1 h2; subst h1; subst h2; exact .refl _
    | 2 => simp at h1 h2; subst h1; subst h2; exact .refl _
    | 3 => simp at h1 h2; subst h1; subst h2; exact .vec sz
    | j + 4 => simp at h1
  | 1 => simp at h1 h2; subst h1; subst h2; exact .refl _
  | j + 2 => simp at h1
theorem zeroE_sub (y : D) : Sub (.tup [.agg [.int .i64 0, .int .u8 0, .int .u64 0, .nilsl], y]) (.tup [zeroE.d, y]) :=
  Sub.tup (.cons (Sub.agg (.cons (Sub.refl _) (.cons (Sub.refl _) (.cons (Sub.refl _) (.cons (Sub.rd rfl) .nil))))) (.cons (Sub.refl _) .nil))
theorem c57 : cFun E0.P 57 = some ⟨54, [(4, none)], .seq (.rg [⟨some 3, none, .box (.t 1) 35⟩, ⟨some 4, none, .mv (.k (.int .i64 0))⟩]) (.seq (.seq (.rg [⟨some 13, none, .mv (.t 0)⟩, ⟨some 14, none, .call 39 [.t 13, .k (.int .i64 0)]⟩, ⟨some 12, none, .mv (.t 14)⟩, ⟨some 15, none, .ext 0 (.t 12)⟩, ⟨some 16, none, .ext 1 (.t 12)⟩, ⟨some 5, none, .alloc [.int .i64 0, .int .i64 0, .int .u8 0, .str ⟨#[]⟩, .bool false] 37⟩, ⟨none, none, .st 5 (.t 5) (.t 15)⟩, ⟨some 6, none, .mv (.t 16)⟩]) (.seq (.rg [⟨some 17, none, .mv (.t 6)⟩, ⟨some 18, none, .bin .eql .leaf (.t 17) (.k (.int .i64 1))⟩]) (.cond (.t 18) (.seq (.rg [⟨some 19, none, .mv (.t 6)⟩, ⟨some 4, none, .mv (.t 19)⟩]) .ret) .skip))) (.seq (.seq (.rg [⟨some 20, none, .ld 4 true (.t 3)⟩, ⟨some 21, none, .call 74 [.t 20]⟩, ⟨some 7, none, .mv (.t 21)⟩]) (.seq (.rg [⟨some 22, none, .mv (.t 7)⟩, ⟨some 23, none, .bin .neq .leaf (.t 22) (.k (.int .i64 0))⟩]) (.cond (.t 23) (.seq (.rg [⟨some 24, none, .mv (.t 7)⟩, ⟨some 4, none, .mv (.t 24)⟩]) .ret) .skip))) (.seq (.seq (.rg [⟨some 25, none, .fa 3 (.t 3)⟩, ⟨some 26, none, .ld 1 false (.t 25)⟩, ⟨some 27, none, .len 1 (.t 26)⟩, ⟨some 28, none, .mv (.k (.int .i64 0))⟩]) (.block 0 (.loop (.seq (.rg [⟨some 29, none, .bin .lss .leaf (.t 28) (.t 27)⟩]) (.seq (.cond (.t 29) .skip (.exit 0)) (.seq (.block 1 (.seq (.rg [⟨some 30, none, .ia 4 (.t 26) (.t 28)⟩, ⟨some 31, none, .ld 4 true (.t 30)⟩, ⟨some 9, none, .alloc [.int .i64 0, .int .u64 0, .int .u64 0, .int .i64 0] 85⟩, ⟨none, none, .st 4 (.t 9) (.t 31)⟩]) (.seq (.rg [⟨some 33, none, .mv (.t 0)⟩, ⟨some 34, none, .fa 0 (.t 9)⟩, ⟨some 35, none, .ld 1 false (.t 34)⟩, ⟨some 36, none, .call 39 [.t 33, .t 35]⟩, ⟨some 32, none, .mv (.t 36)⟩, ⟨some 37, none, .ext 0 (.t 32)⟩, ⟨some 38, none, .ext 1 (.t 32)⟩, ⟨some 10, none, .alloc [.int .i64 0, .int .i64 0, .int .u8 0, .str ⟨#[]⟩, .bool false] 37⟩, ⟨none, none, .st 5 (.t 10) (.t 37)⟩, ⟨some 11, none, .mv (.t 38)⟩]) (.block 2 (.seq (.rg [⟨some 40, none, .mv (.t 11)⟩, ⟨some 41, none, .bin .neq .leaf (.t 40) (.k (.int .i64 0))⟩, ⟨some 39, none, .mv (.t 41)⟩]) (.cond (.t 39) (.seq (.rg [⟨some 42, none, .mv (.t 11)⟩, ⟨some 4, none, .mv (.t 42)⟩]) .ret) (.seq (.rg [⟨some 44, none, .fa 4 (.t 10)⟩, ⟨some 45, none, .ld 1 false (.t 44)⟩, ⟨some 46, none, .mv (.t 45)⟩, ⟨some 47, some (46, false), .mv (.t 0)⟩, ⟨some 48, some (46, false), .fa 0 (.t 9)⟩, ⟨some 49, some (46, false), .ld 1 false (.t 48)⟩, ⟨some 50, some (46, false), .call 75 [.t 47, .t 49]⟩, ⟨some 51, some (46, false), .un .not (.t 50)⟩, ⟨some 52, none, .pick (.t 46) (.k (.bool true)) (.t 51)⟩, ⟨some 43, none, .mv (.t 52)⟩]) (.cond (.t 43) (.seq (.rg [⟨some 4, none, .mv (.k (.int .i64 9))⟩]) .ret) .skip)))))))) (.rg [⟨some 53, none, .bin .add .leaf (.t 28) (.k (.int .i64 1))⟩, ⟨some 28, none, .mv (.t 53)⟩]))))))) (.seq (.rg [⟨some 4, none, .mv (.k (.int .i64 0))⟩]) .ret))))⟩ := by kernel_rfl

abbrev AcL := List Go.KL.YtkojphmejddhiaaGreatDoor.Ac
def lfQ (ql : AcL) (c : Int) : Bool := decide ((undL ql c ql).length = 1)
def onL (ql : AcL) : List Ln → Int
  | [] => 0
  | x :: r => match look ql x.acc with
    | none => 7
    | some a => if a.sh = true ∨ lfQ ql x.acc = false then 9 else onL ql r
def onN (ql : AcL) (e : Ent) : Int := if e.chk = 0 then onL ql e.L else e.chk
theorem onL_at {ql : AcL} {L : List Ln} {i : Nat} (hi : i < L.length) : onL ql (L.drop i) = match look ql (L[i]!).acc with
    | none => 7
    | some a => if a.sh = true ∨ lfQ ql (L[i]!).acc = false then 9 else onL ql (L.drop (i + 1)) := by
  rw [List.drop_eq_getElem_cons hi, ← getElem!_pos L i hi]; rfl
theorem on_nil (e : Ent) : Pure 57 [.nilp, e.d] (.int .i64 1) := by
  intro S tk
  refine ACalls.fgo c57 rfl fun hS => ?_
  repeat' first | with_reducible refine fzD_ite (fun q => ?_) (fun q => ?_) | ((try conv => whnf); first | refine bs_d (fun q => ?_) (fun q => ?_) | refine bs_n ?_ | refine bs_i (fun q => ?_) (fun q => ?_) | refine ckz (get_nil 0) ?_ | refine cq (get_nil 0) ?_ | refine eqk rfl ?_ | refine ffin _ rfl rfl hS (Sub.refl _) rfl ⟨?_, rfl, rfl⟩)
  all_goals rfl
section
variable {cid mid : Nat} {S : List O} {tk : Tks} {o : O} {ql : AcL}
theorem on_c (hch : Ch (look ql) o) (hc : S[cid]? = some (.arr [.map mid])) (hm : S[mid]? = some o) (hok : OkQ ql) (hl : ql.length < 1000000) (e : Ent) (hR : e.R) :
    ACalls E0 57 [.po cid 0, e.d] S tk (fun r S' tk' => r = .int .i64 (onN ql e) ∧ S' = S ∧ tk' = tk) := by
  have hLl : (ql.map Ac.code).length < 1000000 := by rw [List.length_map]; exact hl
  have hlen := lns_len e.L
  have hck := Check e hR
  have hcl : cid < S.length := (List.getElem?_eq_some_iff.1 hc).1
  have gt := fun (k : Int) (J : List O) (tk : Tks) => get_c (S := S ++ J) (tk := tk) hch (at_old hc) (at_old hm) k
  have lf := fun (k : Int) (J : List O) (tk : Tks) => leaf_c (S := S ++ J) (tk := tk) hch (at_old hc) (at_old hm) hok.keys hLl k (hok.und hl k)
  have g0 := gt 0
  rw [show getF (look ql) 0 = .tup [.agg noAc.cs, .int .i64 7] by rw [getF, hok.zero]; rfl] at g0
  by_cases h0 : e.chk = 0
  rotate_left
  · rw [onN, if_neg h0]
    refine ACalls.fgo c57 rfl fun hS => ?_
    repeat' first | with_reducible refine fzD_ite (fun q => ?_) (fun q => ?_) | ((try conv => whnf); first | refine bs_f (decide_eq_false h0) ?_ | refine bs_d (fun q => ?_) (fun q => ?_) | refine bs_n ?_ | refine bs_i (fun q => ?_) (fun q => ?_) | refine ckz (hck) ?_ | refine cq (hck) ?_ | refine ckA rfl rfl (g0 _ _) ?_ | refine eqk rfl ?_ | refine ffin _ rfl rfl hS (Sub.refl _) rfl ⟨?_, rfl, rfl⟩)
    all_goals rfl
  rw [onN, if_pos h0]
  rw [h0] at hck
  obtain ⟨h1, h2, h3⟩ := Ent.chk_0 h0
  unfold Ent.hd at h1
  refine ACalls.fgo c57 rfl fun hS => ?_
  repeat' first | with_reducible refine fzD_ite (fun q => ?_) (fun q => ?_) | ((try conv => whnf); first | refine bs_d (fun q => ?_) (fun q => ?_) | refine bs_n ?_ | refine bs_i (fun q => ?_) (fun q => ?_) | refine ckz (hck) ?_ | refine cq (hck) ?_ | refine ckA rfl rfl (g0 _ _) ?_ | refine eqk rfl ?_ | refine ffin _ rfl rfl hS (Sub.refl _) rfl ⟨?_, rfl, rfl⟩)
  conv => whnf
  refine floop (α := Nat) rfl rfl hS (fun i => i ≤ e.L.length ∧ onL ql e.L = onL ql (e.L.drop i)) (fun i => e.L.length - i) (fun i => [(28, .d (.int .i64 i)), (27, .d (.int .i64 e.L.length)), (26, .d (.sl (lns e.L))), (0, .d (.po cid 0))]) (fun _ => []) (fun _ => []) 0 ⟨Nat.zero_le _, rfl⟩ (fstep_drop (J' := []) (Jx := [_, _]) (TK' := []) (TKx := []) rfl rfl ⟨Sub.refl _, Sub.int (by rw [hlen]), Sub.refl _, Sub.refl _, trivial⟩ (by simp [frD, FD.to, frSc, D.sc, scLL_lns, hcl]) rfl) ?_
  rintro i ⟨hi, hp⟩
  by_cases hlt : i < e.L.length
  · rw [hp, onL_at hlt]
    have gx := gt (e.L[i]!).acc
    have lx := lf (e.L[i]!).acc
    cases hx : look ql (e.L[i]!).acc with
    | none =>
      rw [show getF (look ql) (e.L[i]!).acc = .tup [.agg noAc.cs, .int .i64 7] by rw [getF, hx]; rfl] at gx
      repeat' first | with_reducible refine fzD_ite (fun q => ?_) (fun q => ?_) | ((try conv => whnf); first | refine bs_t (decide_eq_true (by omega)) ?_ | refine bs_d (fun q => ?_) (fun q => ?_) | refine bs_n ?_ | refine bs_i (fun q => ?_) (fun q => ?_) | refine pK_i (iaD_ln (i := i) rfl hlt) ?_ | refine ckA rfl rfl (gx _ _) ?_ | refine eqk rfl ?_ | refine ffin _ rfl rfl hS (Sub.refl _) rfl ⟨?_, rfl, rfl⟩)
      all_goals rfl
    | some a =>
      rw [show getF (look ql) (e.L[i]!).acc = .tup [.agg a.cs, .int .i64 0] by rw [getF, hx]; rfl] at gx
      simp only
      change ∀ J tk, ACalls _ _ _ _ _ (fun r S' tk' => r = .bool (lfQ ql (e.L[i]!).acc) ∧ S' = _ ∧ tk' = tk) at lx
      cases hsh : a.sh with
      | true =>
        rw [if_pos (.inl rfl)]
        repeat' first | with_reducible refine fzD_ite (fun q => ?_) (fun q => ?_) | ((try conv => whnf); first | refine bs_t (decide_eq_true (by omega)) ?_ | refine bs_d (fun q => ?_) (fun q => ?_) | refine bs_n ?_ | refine bs_i (fun q => ?_) (fun q => ?_) | refine pK_i (iaD_ln (i := i) rfl hlt) ?_ | (refine ckA rfl rfl (gx _ _) ?_; rw [show a.cs = [.int .i64 a.code, .int .i64 a.up, .int .u8 a.cl, .str a.nm, .bool true] by rw [← hsh]; rfl]) | refine eqk rfl ?_ | refine ffin _ rfl rfl hS (Sub.refl _) rfl ⟨?_, rfl, rfl⟩)
        all_goals rfl
      | false =>
        cases hlf : lfQ ql (e.L[i]!).acc with
        | false =>
          rw [hlf] at lx
          rw [if_pos (.inr rfl)]
          repeat' first | with_reducible refine fzD_ite (fun q => ?_) (fun q => ?_) | ((try conv => whnf); first | refine bs_t (decide_eq_true (by omega)) ?_ | refine bs_d (fun q => ?_) (fun q => ?_) | refine bs_n ?_ | refine bs_i (fun q => ?_) (fun q => ?_) | refine pK_i (iaD_ln (i := i) rfl hlt) ?_ | (refine ckA rfl rfl (gx _ _) ?_; rw [show a.cs = [.int .i64 a.code, .int .i64 a.up, .int .u8 a.cl, .str a.nm, .bool false] by rw [← hsh]; rfl]) | refine ckA rfl rfl (lx _ _) ?_ | refine eqk rfl ?_ | refine ffin _ rfl rfl hS (Sub.refl _) rfl ⟨?_, rfl, rfl⟩)
          all_goals rfl
        | true =>
          rw [hlf] at lx
          rw [if_neg (by simp)]
          repeat' first | with_reducible refine fzD_ite (fun q => ?_) (fun q => ?_) | ((try conv => whnf); first | refine bs_t (decide_eq_true (by omega)) ?_ | refine bs_d (fun q => ?_) (fun q => ?_) | refine bs_n ?_ | refine bs_i (fun q => ?_) (fun q => ?_) | refine pK_i (iaD_ln (i := i) rfl hlt) ?_ | (refine ckA rfl rfl (gx _ _) ?_; rw [show a.cs = [.int .i64 a.code, .int .i64 a.up, .int .u8 a.cl, .str a.nm, .bool false] by rw [← hsh]; rfl]) | refine ckA rfl rfl (lx _ _) ?_ | refine eqk rfl ?_ | refine ffin _ rfl rfl hS (Sub.refl _) rfl ⟨?_, rfl, rfl⟩)
          conv => whnf
          exact fnext (α := Nat) (i + 1) ⟨by omega, rfl⟩ (by omega) (fstep_drop (J' := []) (Jx := [_, _]) (TK' := []) (TKx := []) rfl rfl ⟨Sub.int (by first | rfl | omega | (refine Int.sub_eq_zero.mp ?_; simp (disch := ((try unfold I64); omega)) only [wi64_id, td]; omega)), Sub.refl _, Sub.refl _, Sub.refl _, trivial⟩ (by simp [frD, FD.to, frSc, D.sc, scLL_lns, hcl]) rfl)
  · rw [hp, List.drop_of_length_le (by omega)]
    repeat' first | with_reducible refine fzD_ite (fun q => ?_) (fun q => ?_) | ((try conv => whnf); first | refine bs_f (decide_eq_false (by omega)) ?_ | refine bs_d (fun q => ?_) (fun q => ?_) | refine bs_n ?_ | refine bs_i (fun q => ?_) (fun q => ?_) | refine eqk rfl ?_ | refine ffin _ rfl rfl hS (Sub.refl _) rfl ⟨?_, rfl, rfl⟩)
    all_goals rfl
end
theorem c70 : cFun E0.P 70 = some ⟨26, [(2, none)], .seq (.rg [⟨some 1, none, .box (.t 0) 85⟩, ⟨some 2, none, .mv (.k (.bool false))⟩]) (.seq (.rg [⟨some 3, none, .fa 0 (.t 1)⟩, ⟨some 4, none, .ld 1 false (.t 3)⟩, ⟨some 5, none, .bin .geq .leaf (.t 4) (.k (.int .i64 1))⟩, ⟨some 6, none, .mv (.t 5)⟩, ⟨some 7, some (6, true), .fa 0 (.t 1)⟩, ⟨some 8, some (6, true), .ld 1 false (.t 7)⟩, ⟨some 9, some (6, true), .bin .leq .leaf (.t 8) (.k (.int .i64 9999))⟩, ⟨some 10, none, .pick (.t 6) (.t 9) (.k (.bool false))⟩, ⟨some 11, none, .mv (.t 10)⟩, ⟨some 12, some (11, true), .fa 3 (.t 1)⟩, ⟨some 13, some (11, true), .ld 1 false (.t 12)⟩, ⟨some 14, some (11, true), .bin .neq .leaf (.t 13) (.k (.int .i64 0))⟩, ⟨some 15, none, .pick (.t 11) (.t 14) (.k (.bool false))⟩, ⟨some 16, none, .mv (.t 15)⟩, ⟨some 17, some (16, true), .fa 3 (.t 1)⟩, ⟨some 18, some (16, true), .ld 1 false (.t 17)⟩, ⟨some 19, some (16, true), .bin .geq .leaf (.t 18) (.k (.int .i64 (-4611686018427387904)))⟩, ⟨some 20, none, .pick (.t 16) (.t 19) (.k (.bool false))⟩, ⟨some 21, none, .mv (.t 20)⟩, ⟨some 22, some (21, true), .fa 3 (.t 1)⟩, ⟨some 23, some (21, true), .ld 1 false (.t 22)⟩, ⟨some 24, some (21, true), .bin .leq .leaf (.t 23) (.k (.int .i64 4611686018427387904))⟩, ⟨some 25, none, .pick (.t 21) (.t 24) (.k (.bool false))⟩, ⟨some 2, none, .mv (.t 25)⟩]) .ret)⟩ := by kernel_rfl
theorem c71 : cFun E0.P 71 = some ⟨24, [(2, none), (3, none)], .seq (.rg [⟨some 2, none, .mv (.k (.int .i64 0))⟩, ⟨some 3, none, .mv (.k (.bool false))⟩]) (.seq (.rg [⟨some 4, none, .mv (.k .nilsl)⟩]) (.seq (.seq (.rg [⟨some 5, none, .mv (.k (.int .i64 0))⟩]) (.block 0 (.loop (.seq (.seq (.rg [⟨some 6, none, .mv (.t 5)⟩, ⟨some 7, none, .mv (.t 0)⟩, ⟨some 8, none, .len 1 (.t 7)⟩, ⟨some 9, none, .bin .lss .leaf (.t 6) (.t 8)⟩]) (.cond (.t 9) .skip (.exit 0))) (.seq (.block 1 (.rg [⟨some 12, none, .mv (.t 4)⟩, ⟨some 13, none, .mv (.t 0)⟩, ⟨some 14, none, .mv (.t 5)⟩, ⟨some 15, none, .ia 4 (.t 13) (.t 14)⟩, ⟨some 16, none, .fa 3 (.t 15)⟩, ⟨some 17, none, .ld 1 false (.t 16)⟩, ⟨some 18, none, .buildS 1 1 [.int .i64 0] [(0, .t 17)] 2⟩, ⟨some 19, none, .app 102 2 1 8 [.int .i64 0] (.t 12) (.t 18)⟩, ⟨some 4, none, .mv (.t 19)⟩])) (.rg [⟨some 10, none, .mv (.t 5)⟩, ⟨some 11, none, .bin .add .leaf (.t 10) (.k (.int .i64 1))⟩, ⟨some 5, none, .mv (.t 11)⟩])))))) (.seq (.rg [⟨some 20, none, .mv (.t 4)⟩, ⟨some 21, none, .call 65 [.t 20]⟩, ⟨some 22, none, .ext 0 (.t 21)⟩, ⟨some 23, none, .ext 1 (.t 21)⟩, ⟨some 2, none, .mv (.t 22)⟩, ⟨some 3, none, .mv (.t 23)⟩]) .ret)))⟩ := by kernel_rfl
theorem c51 : cFun E0.P 51 = some ⟨57, [(2, none)], .seq (.rg [⟨some 1, none, .box (.t 0) 35⟩, ⟨some 2, none, .mv (.k (.int .i64 0))⟩]) (.seq (.seq (.rg [⟨some 6, none, .fa 0 (.t 1)⟩, ⟨some 7, none, .ld 1 false (.t 6)⟩, ⟨some 8, none, .bin .lss .leaf (.t 7) (.k (.int .i64 1))⟩, ⟨some 9, none, .mv (.t 8)⟩, ⟨some 10, some (9, false), .fa 0 (.t 1)⟩, ⟨some 11, some (9, false), .ld 1 false (.t 10)⟩, ⟨some 12, some (9, false), .bin .gtr .leaf (.t 11) (.k (.int .i64 3652059))⟩, ⟨some 13, none, .pick (.t 9) (.k (.bool true)) (.t 12)⟩, ⟨some 14, none, .mv (.t 13)⟩, ⟨some 15, some (14, false), .fa 1 (.t 1)⟩, ⟨some 16, some (14, false), .ld 1 false (.t 15)⟩, ⟨some 17, some (14, false), .bin .eql .leaf (.t 16) (.k (.int .u8 0))⟩, ⟨some 18, none, .pick (.t 14) (.k (.bool true)) (.t 17)⟩, ⟨some 19, none, .mv (.t 18)⟩, ⟨some 20, some (19, false), .fa 3 (.t 1)⟩, ⟨some 21, some (19, false), .ld 1 false (.t 20)⟩, ⟨some 22, some (19, false), .len 1 (.t 21)⟩, ⟨some 23, some (19, false), .bin .lss .leaf (.t 22) (.k (.int .i64 2))⟩, ⟨some 24, none, .pick (.t 19) (.k (.bool true)) (.t 23)⟩, ⟨some 25, none, .mv (.t 24)⟩, ⟨some 26, some (25, false), .fa 3 (.t 1)⟩, ⟨some 27, some (25, false), .ld 1 false (.t 26)⟩, ⟨some 28, some (25, false), .len 1 (.t 27)⟩, ⟨some 29, some (25, false), .bin .gtr .leaf (.t 28) (.k (.int .i64 64))⟩, ⟨some 30, none, .pick (.t 25) (.k (.bool true)) (.t 29)⟩]) (.cond (.t 30) (.seq (.rg [⟨some 2, none, .mv (.k (.int .i64 2))⟩]) .ret) .skip)) (.seq (.seq (.rg [⟨some 3, none, .mv (.k (.int .i64 0))⟩]) (.block 0 (.loop (.seq (.seq (.rg [⟨some 31, none, .mv (.t 3)⟩, ⟨some 32, none, .fa 3 (.t 1)⟩, ⟨some 33, none, .ld 1 false (.t 32)⟩, ⟨some 34, none, .len 1 (.t 33)⟩, ⟨some 35, none, .bin .lss .leaf (.t 31) (.t 34)⟩]) (.cond (.t 35) .skip (.exit 0))) (.seq (.block 1 (.seq (.rg [⟨some 38, none, .fa 3 (.t 1)⟩, ⟨some 39, none, .ld 1 false (.t 38)⟩, ⟨some 40, none, .mv (.t 3)⟩, ⟨some 41, none, .ia 4 (.t 39) (.t 40)⟩, ⟨some 42, none, .ld 4 true (.t 41)⟩, ⟨some 43, none, .call 70 [.t 42]⟩, ⟨some 44, none, .un .not (.t 43)⟩]) (.cond (.t 44) (.seq (.rg [⟨some 2, none, .mv (.k (.int .i64 2))⟩]) .ret) .skip))) (.rg [⟨some 36, none, .mv (.t 3)⟩, ⟨some 37, none, .bin .add .leaf (.t 36) (.k (.int .i64 1))⟩, ⟨some 3, none, .mv (.t 37)⟩])))))) (.seq (.rg [⟨some 46, none, .fa 3 (.t 1)⟩, ⟨some 47, none, .ld 1 false (.t 46)⟩, ⟨some 48, none, .call 71 [.t 47]⟩, ⟨some 45, none, .mv (.t 48)⟩, ⟨some 49, none, .ext 0 (.t 45)⟩, ⟨some 50, none, .ext 1 (.t 45)⟩, ⟨some 4, none, .mv (.t 49)⟩, ⟨some 5, none, .mv (.t 50)⟩]) (.seq (.seq (.rg [⟨some 51, none, .mv (.t 5)⟩, ⟨some 52, none, .un .not (.t 51)⟩, ⟨some 53, none, .mv (.t 52)⟩, ⟨some 54, some (53, false), .mv (.t 4)⟩, ⟨some 55, some (53, false), .bin .neq .leaf (.t 54) (.k (.int .i64 0))⟩, ⟨some 56, none, .pick (.t 53) (.k (.bool true)) (.t 55)⟩]) (.cond (.t 56) (.seq (.rg [⟨some 2, none, .mv (.k (.int .i64 200))⟩]) .ret) .skip)) (.seq (.rg [⟨some 2, none, .mv (.k (.int .i64 0))⟩]) .ret)))))⟩ := by kernel_rfl

theorem rmay (x : Ln) : Pure 70 [x.d] (.bool (decide x.may)) := by
  intro S tk
  refine ACalls.fgo c70 rfl fun hS => ?_
  repeat' first | with_reducible refine fzD_ite (fun q => ?_) (fun q => ?_) | ((try conv => whnf); first | refine bs_d (fun q => ?_) (fun q => ?_) | refine bs_n ?_ | refine bs_i (fun q => ?_) (fun q => ?_) | refine eqk rfl ?_ | refine ffin _ rfl rfl hS (Sub.refl _) rfl ⟨?_, rfl, rfl⟩)
  all_goals
    simp only [tupD, D.bool.injEq, Ln.may, Bool.true_eq, Bool.false_eq, decide_eq_true_eq, decide_eq_false_iff_not, decide_eq_decide]
    first
      | exact decide_eq_true (by omega)
      | exact decide_eq_false (by omega)
theorem rsum (L : List Ln) (hl : L.length < 1000000) (hR : ∀ x ∈ L, x.R) : Pure 71 [.sl (lns L)] (sumS (L.map Ln.amt)) := by
  intro S tk
  have hlen := lns_len L
  have hsum := refSum (L.map Ln.amt) (by simp; omega) (fun n hn => by obtain ⟨x, hx, rfl⟩ := List.mem_map.1 hn; exact (hR x hx).amt)
  refine ACalls.fgo c71 rfl fun hS => ?_
  repeat' first | with_reducible refine fzD_ite (fun q => ?_) (fun q => ?_) | ((try conv => whnf); first | refine bs_d (fun q => ?_) (fun q => ?_) | refine bs_n ?_ | refine bs_i (fun q => ?_) (fun q => ?_) | refine eqk rfl ?_ | refine ffin _ rfl rfl hS (Sub.refl _) rfl ⟨?_, rfl, rfl⟩)
  refine floop (α := Nat) rfl rfl hS (fun i => i ≤ L.length) (fun i => L.length - i) (fun i => [(5, .d (.int .i64 i)), (0, .d (.sl (lns L))), (4, .d (.gsl (i64s ((L.take i).map Ln.amt)) (tk.length + 0)))]) (fun _ => []) (fun i => [((i64s ((L.take i).map Ln.amt)).length, 2, 1)]) 0 (Nat.zero_le _) (fstep_tok 2 1 (t := 4) (.inl rfl) ⟨Sub.refl _, Sub.refl _, Sub.refl _, trivial⟩) ?_
  intro i hi
  by_cases hlt : i < L.length
  · have hgl : i64s ((L.take i).map Ln.amt) ++ [[.int .i64 L[i]!.amt]] = i64s ((L.take (i + 1)).map Ln.amt) := by rw [take_snA hlt]; simp [i64s]
    repeat' first | with_reducible refine fzD_ite (fun q => ?_) (fun q => ?_) | ((try conv => whnf); first | refine bs_t (decide_eq_true (by omega)) ?_ | refine bs_d (fun q => ?_) (fun q => ?_) | refine bs_n ?_ | refine bs_i (fun q => ?_) (fun q => ?_) | refine pK_i (iaD_ln (i := i) rfl hlt) ?_ | (refine gk_app (t := 0) (src := [[.int .i64 L[i]!.amt]]) rfl rfl (by rfl) (by rfl) (by rfl) (by simp) (by rw [i64s_len, List.length_map, List.length_take]; simp [maxLen]; omega) ?_; rw [hgl]) | refine eqk rfl ?_ | refine ffin _ rfl rfl hS (Sub.refl _) rfl ⟨?_, rfl, rfl⟩)
    conv => whnf
    exact fnext (α := Nat) (i + 1) (by omega) (by omega) (fstep_K rfl ⟨Sub.int (by first | rfl | omega | (refine Int.sub_eq_zero.mp ?_; simp (disch := ((try unfold I64); omega)) only [wi64_id, td]; omega)), Sub.refl _, Sub.refl _, trivial⟩)
  · obtain rfl : i = L.length := by omega
    rw [List.take_length]
    by_cases hf : -9223372036854775808 ≤ (L.map Ln.amt).sum ∧ (L.map Ln.amt).sum < 9223372036854775808
    · rw [sumS, if_pos hf] at hsum ⊢
      repeat' first | with_reducible refine fzD_ite (fun q => ?_) (fun q => ?_) | ((try conv => whnf); first | refine bs_f (decide_eq_false (by omega)) ?_ | refine bs_d (fun q => ?_) (fun q => ?_) | refine bs_n ?_ | refine bs_i (fun q => ?_) (fun q => ?_) | refine ckS (by first | rfl | simp) rfl hsum (.cons (Sub.rd rfl) .nil) ?_ | refine eqk rfl ?_ | refine ffin _ rfl rfl hS (Sub.refl _) rfl ⟨?_, rfl, rfl⟩)
      all_goals rfl
    · rw [sumS, if_neg hf] at hsum ⊢
      repeat' first | with_reducible refine fzD_ite (fun q => ?_) (fun q => ?_) | ((try conv => whnf); first | refine bs_f (decide_eq_false (by omega)) ?_ | refine bs_d (fun q => ?_) (fun q => ?_) | refine bs_n ?_ | refine bs_i (fun q => ?_) (fun q => ?_) | refine ckS (by first | rfl | simp) rfl hsum (.cons (Sub.rd rfl) .nil) ?_ | refine eqk rfl ?_ | refine ffin _ rfl rfl hS (Sub.refl _) rfl ⟨?_, rfl, rfl⟩)
      all_goals rfl
theorem rCheck (e : Ent) (hR : e.R) : Pure 51 [e.d] (.int .i64 e.chk) := by
  intro S tk
  have hlen := lns_len e.L
  by_cases hh : e.hd
  rotate_left
  · rw [Ent.chk, if_neg (fun h => hh h.1)]
    unfold Ent.hd at hh
    by_cases d1 : e.day < 1
    · refine ACalls.fgo c51 rfl fun hS => ?_
      repeat' first | with_reducible refine fzD_ite (fun q => ?_) (fun q => ?_) | ((try conv => whnf); first | refine bs_t (decide_eq_true d1) ?_ | refine bs_d (fun q => ?_) (fun q => ?_) | refine bs_n ?_ | refine bs_i (fun q => ?_) (fun q => ?_) | refine eqk rfl ?_ | refine ffin _ rfl rfl hS (Sub.refl _) rfl ⟨?_, rfl, rfl⟩)
      all_goals rfl
    · refine ACalls.fgo c51 rfl fun hS => ?_
      repeat' first | with_reducible refine fzD_ite (fun q => ?_) (fun q => ?_) | ((try conv => whnf); first | refine bs_f (decide_eq_false d1) ?_ | refine bs_d (fun q => ?_) (fun q => ?_) | refine bs_n ?_ | refine bs_i (fun q => ?_) (fun q => ?_) | refine eqk rfl ?_ | refine ffin _ rfl rfl hS (Sub.refl _) rfl ⟨?_, rfl, rfl⟩)
      all_goals first | rfl | (exfalso; omega)
  have hh' := hh
  unfold Ent.hd at hh'
  have hsm := rsum e.L (by omega) hR.L
  refine ACalls.fgo c51 rfl fun hS => ?_
  repeat' first | with_reducible refine fzD_ite (fun q => ?_) (fun q => ?_) | ((try conv => whnf); first | refine bs_f (decide_eq_false (by omega)) ?_ | refine bs_d (fun q => ?_) (fun q => ?_) | refine bs_n ?_ | refine bs_i (fun q => ?_) (fun q => ?_) | refine eqk rfl ?_ | refine ffin _ rfl rfl hS (Sub.refl _) rfl ⟨?_, rfl, rfl⟩)
  conv => whnf
  refine floop (α := Nat) rfl rfl hS (fun i => i ≤ e.L.length ∧ ∀ x ∈ e.L.take i, x.may) (fun i => e.L.length - i) (fun i => [(3, .d (.int .i64 i)), (1, .lp 0 0)]) (fun _ => [.arr [.int .i64 e.day, .int .u8 e.kind, .int .u64 e.src, .sl (lns e.L)]]) (fun _ => []) 0 ⟨Nat.zero_le _, by simp⟩ (fstep_sub ⟨Sub.refl _, Sub.refl _, trivial⟩) ?_
  rintro i ⟨hi, hm⟩
  by_cases hlt : i < e.L.length
  · have hmy := rmay e.L[i]!
    by_cases hy : e.L[i]!.may
    · rw [decide_eq_true hy] at hmy
      repeat' first | with_reducible refine fzD_ite (fun q => ?_) (fun q => ?_) | ((try conv => whnf); first | refine bs_t (decide_eq_true (by omega)) ?_ | refine bs_d (fun q => ?_) (fun q => ?_) | refine bs_n ?_ | refine bs_i (fun q => ?_) (fun q => ?_) | refine pK_i (iaD_ln (i := i) rfl hlt) ?_ | refine ckz (hmy) ?_ | refine cq (hmy) ?_ | refine eqk rfl ?_ | refine ffin _ rfl rfl hS (Sub.refl _) rfl ⟨?_, rfl, rfl⟩)
      conv => whnf
      refine fnext (α := Nat) (i + 1) ⟨by omega, fun x hx => ?_⟩ (by omega) (fstep_sub ⟨Sub.int (by first | rfl | omega | (refine Int.sub_eq_zero.mp ?_; simp (disch := ((try unfold I64); omega)) only [wi64_id, td]; omega)), Sub.refl _, trivial⟩)
      rw [take_snA hlt, List.mem_append, List.mem_singleton] at hx
      rcases hx with hx | rfl
      · exact hm x hx
      · exact hy
    · rw [decide_eq_false hy] at hmy
      rw [Ent.chk, if_neg (fun h => hy (h.2 _ (mem_at hlt)))]
      repeat' first | with_reducible refine fzD_ite (fun q => ?_) (fun q => ?_) | ((try conv => whnf); first | refine bs_t (decide_eq_true (by omega)) ?_ | refine bs_d (fun q => ?_) (fun q => ?_) | refine bs_n ?_ | refine bs_i (fun q => ?_) (fun q => ?_) | refine pK_i (iaD_ln (i := i) rfl hlt) ?_ | refine ckz (hmy) ?_ | refine cq (hmy) ?_ | refine eqk rfl ?_ | refine ffin _ rfl rfl hS (Sub.refl _) rfl ⟨?_, rfl, rfl⟩)
      all_goals rfl
  · rw [List.take_of_length_le (by omega)] at hm
    rw [Ent.chk, if_pos ⟨hh, hm⟩]
    by_cases hz : (e.L.map Ln.amt).sum = 0
    · rw [if_pos hz]
      rw [sumS, if_pos (by omega)] at hsm
      repeat' first | with_reducible refine fzD_ite (fun q => ?_) (fun q => ?_) | ((try conv => whnf); first | refine bs_f (decide_eq_false (by omega)) ?_ | refine bs_t (decide_eq_true hz) ?_ | refine bs_d (fun q => ?_) (fun q => ?_) | refine bs_n ?_ | refine bs_i (fun q => ?_) (fun q => ?_) | refine ckz (hsm) ?_ | refine cq (hsm) ?_ | refine eqk rfl ?_ | refine ffin _ rfl rfl hS (Sub.refl _) rfl ⟨?_, rfl, rfl⟩)
      all_goals rfl
    · rw [if_neg hz]
      by_cases hf : -9223372036854775808 ≤ (e.L.map Ln.amt).sum ∧ (e.L.map Ln.amt).sum < 9223372036854775808
      · rw [sumS, if_pos hf] at hsm
        repeat' first | with_reducible refine fzD_ite (fun q => ?_) (fun q => ?_) | ((try conv => whnf); first | refine bs_f (decide_eq_false (by omega)) ?_ | refine bs_f (decide_eq_false hz) ?_ | refine bs_d (fun q => ?_) (fun q => ?_) | refine bs_n ?_ | refine bs_i (fun q => ?_) (fun q => ?_) | refine ckz (hsm) ?_ | refine cq (hsm) ?_ | refine eqk rfl ?_ | refine ffin _ rfl rfl hS (Sub.refl _) rfl ⟨?_, rfl, rfl⟩)
        all_goals rfl
      · rw [sumS, if_neg hf] at hsm
        repeat' first | with_reducible refine fzD_ite (fun q => ?_) (fun q => ?_) | ((try conv => whnf); first | refine bs_f (decide_eq_false (by omega)) ?_ | refine bs_d (fun q => ?_) (fun q => ?_) | refine bs_n ?_ | refine bs_i (fun q => ?_) (fun q => ?_) | refine ckz (hsm) ?_ | refine cq (hsm) ?_ | refine eqk rfl ?_ | refine ffin _ rfl rfl hS (Sub.refl _) rfl ⟨?_, rfl, rfl⟩)
        all_goals rfl
theorem c28 : cFun E0.P 28 = some ⟨47, [(4, none)], .seq (.rg [⟨some 3, none, .box (.t 1) 35⟩, ⟨some 4, none, .mv (.k (.int .i64 0))⟩]) (.seq (.rg [⟨some 8, none, .ld 4 true (.t 3)⟩, ⟨some 9, none, .call 51 [.t 8]⟩, ⟨some 5, none, .mv (.t 9)⟩]) (.seq (.seq (.rg [⟨some 6, none, .mv (.k (.int .i64 0))⟩]) (.block 0 (.loop (.seq (.seq (.rg [⟨some 10, none, .mv (.t 6)⟩, ⟨some 11, none, .fa 3 (.t 3)⟩, ⟨some 12, none, .ld 1 false (.t 11)⟩, ⟨some 13, none, .len 1 (.t 12)⟩, ⟨some 14, none, .bin .lss .leaf (.t 10) (.t 13)⟩, ⟨some 15, none, .mv (.t 14)⟩, ⟨some 16, some (15, true), .mv (.t 5)⟩, ⟨some 17, some (15, true), .bin .eql .leaf (.t 16) (.k (.int .i64 0))⟩, ⟨some 18, none, .pick (.t 15) (.t 17) (.k (.bool false))⟩]) (.cond (.t 18) .skip (.exit 0))) (.seq (.block 1 (.seq (.rg [⟨some 21, none, .mv (.t 0)⟩, ⟨some 22, none, .fa 3 (.t 3)⟩, ⟨some 23, none, .ld 1 false (.t 22)⟩, ⟨some 24, none, .mv (.t 6)⟩, ⟨some 25, none, .ia 4 (.t 23) (.t 24)⟩, ⟨some 26, none, .fa 0 (.t 25)⟩, ⟨some 27, none, .ld 1 false (.t 26)⟩, ⟨some 28, none, .call 52 [.t 21, .t 27]⟩, ⟨some 7, none, .mv (.t 28)⟩]) (.seq (.rg [⟨some 29, none, .mv (.t 7)⟩, ⟨some 30, none, .bin .lss .leaf (.t 29) (.k (.int .i64 0))⟩]) (.cond (.t 30) (.rg [⟨some 5, none, .mv (.k (.int .i64 7))⟩]) (.seq (.rg [⟨some 31, none, .mv (.t 0)⟩, ⟨some 32, none, .mv (.t 7)⟩, ⟨some 33, none, .ia 5 (.t 31) (.t 32)⟩, ⟨some 34, none, .fa 4 (.t 33)⟩, ⟨some 35, none, .ld 1 false (.t 34)⟩, ⟨some 36, none, .mv (.t 35)⟩, ⟨some 37, some (36, false), .mv (.t 0)⟩, ⟨some 38, some (36, false), .mv (.t 0)⟩, ⟨some 39, some (36, false), .mv (.t 7)⟩, ⟨some 40, some (36, false), .ia 5 (.t 38) (.t 39)⟩, ⟨some 41, some (36, false), .fa 0 (.t 40)⟩, ⟨some 42, some (36, false), .ld 1 false (.t 41)⟩, ⟨some 43, some (36, false), .call 53 [.t 37, .t 42]⟩, ⟨some 44, some (36, false), .un .not (.t 43)⟩, ⟨some 45, none, .pick (.t 36) (.k (.bool true)) (.t 44)⟩]) (.cond (.t 45) (.rg [⟨some 5, none, .mv (.k (.int .i64 9))⟩]) .skip)))))) (.rg [⟨some 19, none, .mv (.t 6)⟩, ⟨some 20, none, .bin .add .leaf (.t 19) (.k (.int .i64 1))⟩, ⟨some 6, none, .mv (.t 20)⟩])))))) (.seq (.rg [⟨some 46, none, .mv (.t 5)⟩, ⟨some 4, none, .mv (.t 46)⟩]) .ret)))⟩ := by kernel_rfl

structure OnS where
  i : Nat
  f : Int
theorem rOn (ql : AcL) (hok : OkQ ql) (hl : ql.length < 1000000) (e : Ent) (hR : e.R) : Pure 28 [.sl (acsL ql), e.d] (.int .i64 (onN ql e)) := by
  intro S tk
  have hlen := lns_len e.L
  have hck := rCheck e hR
  by_cases h0 : e.chk = 0
  rotate_left
  · rw [onN, if_neg h0]
    refine ACalls.fgo c28 rfl fun hS => ?_
    repeat' first | with_reducible refine fzD_ite (fun q => ?_) (fun q => ?_) | ((try conv => whnf); first | refine bs_d (fun q => ?_) (fun q => ?_) | refine bs_n ?_ | refine bs_i (fun q => ?_) (fun q => ?_) | refine ckz (hck) ?_ | refine cq (hck) ?_ | refine eqk rfl ?_ | refine ffin _ rfl rfl hS (Sub.refl _) rfl ⟨?_, rfl, rfl⟩)
    refine floop (α := Nat) rfl rfl hS (fun _ => True) (fun _ => 0) (fun _ => [(6, .d (.int .i64 0)), (5, .d (.int .i64 e.chk)), (3, .lp 0 0)]) (fun _ => [.arr [.int .i64 e.day, .int .u8 e.kind, .int .u64 e.src, .sl (lns e.L)]]) (fun _ => []) 0 trivial (fstep_sub ⟨Sub.refl _, Sub.refl _, Sub.refl _, trivial⟩) ?_
    intro _ _
    repeat' first | with_reducible refine fzD_ite (fun q => ?_) (fun q => ?_) | ((try conv => whnf); first | refine bs_f (decide_eq_false h0) ?_ | refine bs_d (fun q => ?_) (fun q => ?_) | refine bs_n ?_ | refine bs_i (fun q => ?_) (fun q => ?_) | refine eqk rfl ?_ | refine ffin _ rfl rfl hS (Sub.refl _) rfl ⟨?_, rfl, rfl⟩)
    all_goals first | rfl | (exfalso; omega)
  rw [onN, if_pos h0]
  rw [h0] at hck
  obtain ⟨h1, h2, h3⟩ := Ent.chk_0 h0
  unfold Ent.hd at h1
  refine ACalls.fgo c28 rfl fun hS => ?_
  repeat' first | with_reducible refine fzD_ite (fun q => ?_) (fun q => ?_) | ((try conv => whnf); first | refine bs_d (fun q => ?_) (fun q => ?_) | refine bs_n ?_ | refine bs_i (fun q => ?_) (fun q => ?_) | refine ckz (hck) ?_ | refine cq (hck) ?_ | refine eqk rfl ?_ | refine ffin _ rfl rfl hS (Sub.refl _) rfl ⟨?_, rfl, rfl⟩)
  refine floop (α := OnS) rfl rfl hS (fun s => s.i ≤ e.L.length ∧ (s.f = 0 ∧ onL ql e.L = onL ql (e.L.drop s.i) ∨ s.f ≠ 0 ∧ onL ql e.L = s.f)) (fun s => e.L.length - s.i) (fun s => [(6, .d (.int .i64 s.i)), (5, .d (.int .i64 s.f)), (3, .lp 0 0), (0, .d (.sl (acsL ql)))]) (fun _ => [.arr [.int .i64 e.day, .int .u8 e.kind, .int .u64 e.src, .sl (lns e.L)]]) (fun _ => []) ⟨0, 0⟩ ⟨Nat.zero_le _, .inl ⟨rfl, rfl⟩⟩ (fstep_sub ⟨Sub.refl _, Sub.refl _, Sub.refl _, Sub.refl _, trivial⟩) ?_
  rintro ⟨i, f⟩ ⟨hi, hp⟩
  simp only at hi hp ⊢
  by_cases hlt : i < e.L.length
  rotate_left
  · have hend : onL ql e.L = f := by
      rcases hp with ⟨rfl, hp⟩ | ⟨_, hp⟩
      · rw [hp, List.drop_of_length_le (by omega)]; rfl
      · exact hp
    rw [hend]
    repeat' first | with_reducible refine fzD_ite (fun q => ?_) (fun q => ?_) | ((try conv => whnf); first | refine bs_f (decide_eq_false (show ¬ (i : Int) < (lns e.L).length by omega)) ?_ | refine bs_d (fun q => ?_) (fun q => ?_) | refine bs_n ?_ | refine bs_i (fun q => ?_) (fun q => ?_) | refine eqk rfl ?_ | refine ffin _ rfl rfl hS (Sub.refl _) rfl ⟨?_, rfl, rfl⟩)
    all_goals rfl
  rcases hp with ⟨rfl, hp⟩ | ⟨hf, hp⟩
  rotate_left
  · rw [hp]
    repeat' first | with_reducible refine fzD_ite (fun q => ?_) (fun q => ?_) | ((try conv => whnf); first | refine bs_t (decide_eq_true (show (i : Int) < (lns e.L).length by omega)) ?_ | refine bs_f (decide_eq_false hf) ?_ | refine bs_d (fun q => ?_) (fun q => ?_) | refine bs_n ?_ | refine bs_i (fun q => ?_) (fun q => ?_) | refine eqk rfl ?_ | refine ffin _ rfl rfl hS (Sub.refl _) rfl ⟨?_, rfl, rfl⟩)
    all_goals rfl
  have ap := at_p ql (e.L[i]!).acc hl
  have lp := leaf_p ql hl hok.low (e.L[i]!).acc
  change Pure _ _ (.bool (lfQ ql (e.L[i]!).acc)) at lp
  have st := onL_at (ql := ql) hlt
  rcases atI_cases ql (e.L[i]!).acc with ⟨h3, h4⟩ | ⟨k, a, h3, h4, h5, h6, h7⟩
  · rw [h4] at ap
    rw [h3] at st
    repeat' first | with_reducible refine fzD_ite (fun q => ?_) (fun q => ?_) | ((try conv => whnf); first | refine bs_t (decide_eq_true (show (i : Int) < (lns e.L).length by omega)) ?_ | refine bs_d (fun q => ?_) (fun q => ?_) | refine bs_n ?_ | refine bs_i (fun q => ?_) (fun q => ?_) | refine pK_i (iaD_ln (i := i) rfl hlt) ?_ | refine ckz (ap) ?_ | refine cq (ap) ?_ | refine eqk rfl ?_ | refine ffin _ rfl rfl hS (Sub.refl _) rfl ⟨?_, rfl, rfl⟩)
    conv => whnf
    exact fnext (α := OnS) ⟨i + 1, 7⟩ ⟨by simp only; omega, .inr ⟨show (7 : Int) ≠ 0 by decide, by rw [hp, st]⟩⟩ (by simp only; omega) (fstep_sub ⟨Sub.int (by first | rfl | omega | (refine Int.sub_eq_zero.mp ?_; simp (disch := ((try unfold I64); omega)) only [wi64_id, td]; omega)), Sub.refl _, Sub.refl _, Sub.refl _, trivial⟩)
  · rw [h4] at ap
    rw [h6] at st
    simp only at st
    have ik := iaD_ac (l := ql) (i := k) (n := (k : Int)) rfl h3
    rw [show ql[k]! = a by rw [getElem!_pos ql k h3]; rw [List.getElem?_eq_getElem h3] at h5; exact Option.some.inj h5] at ik
    rw [← h7] at lp
    cases hsh : a.sh with
    | true =>
      rw [if_pos (.inl hsh)] at st
      rw [show a.cs = [.int .i64 a.code, .int .i64 a.up, .int .u8 a.cl, .str a.nm, .bool true] by rw [← hsh]; rfl] at ik
      repeat' first | with_reducible refine fzD_ite (fun q => ?_) (fun q => ?_) | ((try conv => whnf); first | refine bs_t (decide_eq_true (show (i : Int) < (lns e.L).length by omega)) ?_ | refine bs_f (decide_eq_false (show ¬ (k : Int) < 0 by omega)) ?_ | refine bs_d (fun q => ?_) (fun q => ?_) | refine bs_n ?_ | refine bs_i (fun q => ?_) (fun q => ?_) | refine pK_i (iaD_ln (i := i) rfl hlt) ?_ | refine ckz (ap) ?_ | refine cq (ap) ?_ | refine pK_i ik ?_ | refine eqk rfl ?_ | refine ffin _ rfl rfl hS (Sub.refl _) rfl ⟨?_, rfl, rfl⟩)
      conv => whnf
      exact fnext (α := OnS) ⟨i + 1, 9⟩ ⟨by simp only; omega, .inr ⟨show (9 : Int) ≠ 0 by decide, by rw [hp, st]⟩⟩ (by simp only; omega) (fstep_sub ⟨Sub.int (by first | rfl | omega | (refine Int.sub_eq_zero.mp ?_; simp (disch := ((try unfold I64); omega)) only [wi64_id, td]; omega)), Sub.refl _, Sub.refl _, Sub.refl _, trivial⟩)
    | false =>
      rw [show a.cs = [.int .i64 a.code, .int .i64 a.up, .int .u8 a.cl, .str a.nm, .bool false] by rw [← hsh]; rfl] at ik
      cases hlf : lfQ ql (e.L[i]!).acc with
      | false =>
        rw [if_pos (.inr hlf)] at st
        rw [← h7] at hlf
        rw [hlf] at lp
        repeat' first | with_reducible refine fzD_ite (fun q => ?_) (fun q => ?_) | ((try conv => whnf); first | refine bs_t (decide_eq_true (show (i : Int) < (lns e.L).length by omega)) ?_ | refine bs_f (decide_eq_false (show ¬ (k : Int) < 0 by omega)) ?_ | refine bs_d (fun q => ?_) (fun q => ?_) | refine bs_n ?_ | refine bs_i (fun q => ?_) (fun q => ?_) | refine pK_i (iaD_ln (i := i) rfl hlt) ?_ | refine ckz (ap) ?_ | refine cq (ap) ?_ | refine pK_i ik ?_ | refine ckz (lp) ?_ | refine cq (lp) ?_ | refine eqk rfl ?_ | refine ffin _ rfl rfl hS (Sub.refl _) rfl ⟨?_, rfl, rfl⟩)
        conv => whnf
        exact fnext (α := OnS) ⟨i + 1, 9⟩ ⟨by simp only; omega, .inr ⟨show (9 : Int) ≠ 0 by decide, by rw [hp, st]⟩⟩ (by simp only; omega) (fstep_sub ⟨Sub.int (by first | rfl | omega | (refine Int.sub_eq_zero.mp ?_; simp (disch := ((try unfold I64); omega)) only [wi64_id, td]; omega)), Sub.refl _, Sub.refl _, Sub.refl _, trivial⟩)
      | true =>
        rw [if_neg (by rw [hsh, hlf]; simp)] at st
        rw [← h7] at hlf
        rw [hlf] at lp
        repeat' first | with_reducible refine fzD_ite (fun q => ?_) (fun q => ?_) | ((try conv => whnf); first | refine bs_t (decide_eq_true (show (i : Int) < (lns e.L).length by omega)) ?_ | refine bs_f (decide_eq_false (show ¬ (k : Int) < 0 by omega)) ?_ | refine bs_d (fun q => ?_) (fun q => ?_) | refine bs_n ?_ | refine bs_i (fun q => ?_) (fun q => ?_) | refine pK_i (iaD_ln (i := i) rfl hlt) ?_ | refine ckz (ap) ?_ | refine cq (ap) ?_ | refine pK_i ik ?_ | refine ckz (lp) ?_ | refine cq (lp) ?_ | refine eqk rfl ?_ | refine ffin _ rfl rfl hS (Sub.refl _) rfl ⟨?_, rfl, rfl⟩)
        conv => whnf
        exact fnext (α := OnS) ⟨i + 1, 0⟩ ⟨by simp only; omega, .inl ⟨rfl, by rw [hp, st]⟩⟩ (by simp only; omega) (fstep_sub ⟨Sub.int (by first | rfl | omega | (refine Int.sub_eq_zero.mp ?_; simp (disch := ((try unfold I64); omega)) only [wi64_id, td]; omega)), Sub.refl _, Sub.refl _, Sub.refl _, trivial⟩)
theorem c47 : cFun E0.P 47 = some ⟨26, [(4, none)], .seq (.rg [⟨some 4, none, .mv (.k (.bool false))⟩]) (.seq (.seq (.rg [⟨some 6, none, .mv (.t 0)⟩, ⟨some 7, none, .len 1 (.t 6)⟩, ⟨some 8, none, .mv (.t 1)⟩, ⟨some 9, none, .len 1 (.t 8)⟩, ⟨some 10, none, .bin .neq .leaf (.t 7) (.t 9)⟩]) (.cond (.t 10) (.seq (.rg [⟨some 4, none, .mv (.k (.bool false))⟩]) .ret) .skip)) (.seq (.seq (.rg [⟨some 5, none, .mv (.k (.int .i64 0))⟩]) (.block 0 (.loop (.seq (.seq (.rg [⟨some 11, none, .mv (.t 5)⟩, ⟨some 12, none, .mv (.t 0)⟩, ⟨some 13, none, .len 1 (.t 12)⟩, ⟨some 14, none, .bin .lss .leaf (.t 11) (.t 13)⟩]) (.cond (.t 14) .skip (.exit 0))) (.seq (.block 1 (.seq (.rd [(⟨some 17, none, .mv (.t 0)⟩, none), (⟨some 18, none, .mv (.t 5)⟩, none), (⟨some 19, none, .ia 4 (.t 17) (.t 18)⟩, none), (⟨some 20, none, .ld 4 true (.t 19)⟩, none), (⟨some 21, none, .mv (.t 1)⟩, none), (⟨some 22, none, .mv (.t 5)⟩, none), (⟨some 23, none, .ia 4 (.t 21) (.t 22)⟩, none), (⟨some 24, none, .ld 4 true (.t 23)⟩, none), (⟨some 25, none, .bin .neq (.agg [(0, .i), (1, .i), (2, .i), (3, .i)]) (.t 20) (.t 24)⟩, none)]) (.cond (.t 25) (.seq (.rg [⟨some 4, none, .mv (.k (.bool false))⟩]) .ret) .skip))) (.rg [⟨some 15, none, .mv (.t 5)⟩, ⟨some 16, none, .bin .add .leaf (.t 15) (.k (.int .i64 1))⟩, ⟨some 5, none, .mv (.t 16)⟩])))))) (.seq (.rg [⟨some 4, none, .mv (.k (.bool true))⟩]) .ret)))⟩ := by kernel_rfl
theorem c17 : cFun E0.P 17 = some ⟨31, [(4, none)], .seq (.rg [⟨some 2, none, .box (.t 0) 35⟩, ⟨some 3, none, .box (.t 1) 35⟩, ⟨some 4, none, .mv (.k (.bool false))⟩]) (.seq (.rg [⟨some 5, none, .fa 0 (.t 2)⟩, ⟨some 6, none, .ld 1 false (.t 5)⟩, ⟨some 7, none, .fa 0 (.t 3)⟩, ⟨some 8, none, .ld 1 false (.t 7)⟩, ⟨some 9, none, .bin .eql .leaf (.t 6) (.t 8)⟩, ⟨some 10, none, .mv (.t 9)⟩, ⟨some 11, some (10, true), .fa 1 (.t 2)⟩, ⟨some 12, some (10, true), .ld 1 false (.t 11)⟩, ⟨some 13, some (10, true), .fa 1 (.t 3)⟩, ⟨some 14, some (10, true), .ld 1 false (.t 13)⟩, ⟨some 15, some (10, true), .bin .eql .leaf (.t 12) (.t 14)⟩, ⟨some 16, none, .pick (.t 10) (.t 15) (.k (.bool false))⟩, ⟨some 17, none, .mv (.t 16)⟩, ⟨some 18, some (17, true), .fa 2 (.t 2)⟩, ⟨some 19, some (17, true), .ld 1 false (.t 18)⟩, ⟨some 20, some (17, true), .fa 2 (.t 3)⟩, ⟨some 21, some (17, true), .ld 1 false (.t 20)⟩, ⟨some 22, some (17, true), .bin .eql .leaf (.t 19) (.t 21)⟩, ⟨some 23, none, .pick (.t 17) (.t 22) (.k (.bool false))⟩, ⟨some 24, none, .mv (.t 23)⟩, ⟨some 25, some (24, true), .fa 3 (.t 2)⟩, ⟨some 26, some (24, true), .ld 1 false (.t 25)⟩, ⟨some 27, some (24, true), .fa 3 (.t 3)⟩, ⟨some 28, some (24, true), .ld 1 false (.t 27)⟩, ⟨some 29, some (24, true), .call 47 [.t 26, .t 28]⟩, ⟨some 30, none, .pick (.t 24) (.t 29) (.k (.bool false))⟩, ⟨some 4, none, .mv (.t 30)⟩]) .ret)⟩ := by kernel_rfl

theorem take_eq {α : Type} [Inhabited α] {a b : List α} {i : Nat} (ha : i < a.length) (hb : i < b.length) (h : a.take i = b.take i) (e : a[i]! = b[i]!) : a.take (i + 1) = b.take (i + 1) := by
  rw [take_snA ha, take_snA hb, h, e]
theorem ne_of_at {α : Type} [Inhabited α] {a b : List α} {i : Nat} (h : ¬ a[i]! = b[i]!) : ¬ a = b := fun e => h (by rw [e])
def lnEq (x y : Ln) : Bool := decide (x.acc = y.acc) && (decide (x.cus = y.cus) && (decide (x.con = y.con) && (decide (x.amt = y.amt) && true)))
theorem ln_t {x y : Ln} (h : lnEq x y = true) : x = y := by
  simp only [lnEq, Bool.and_true, Bool.and_eq_true, decide_eq_true_eq] at h
  cases x; cases y
  simp_all
theorem ln_f {x y : Ln} (h : lnEq x y = false) : ¬ x = y := fun e => by subst e; simp [lnEq] at h
set_option maxHeartbeats 1000000 in
theorem sameL (a b : List Ln) (ha : a.length < 4611686018427387904) (hb : b.length < 4611686018427387904) : Pure 47 [.sl (lns a), .sl (lns b)] (.bool (decide (a = b))) := by
  intro S tk
  have la := lns_len a
  have lb := lns_len b
  refine ACalls.fgo c47 rfl fun hS => ?_
  repeat' first | with_reducible refine fzD_ite (fun q => ?_) (fun q => ?_) | ((try conv => whnf); first | refine bs_d (fun q => ?_) (fun q => ?_) | refine bs_n ?_ | refine bs_i (fun q => ?_) (fun q => ?_) | refine eqk rfl ?_ | refine ffin _ rfl rfl hS (Sub.refl _) rfl ⟨?_, rfl, rfl⟩)
  rotate_left
  · exact congrArg D.bool (decide_eq_false (fun e => by subst e; omega)).symm
  conv => whnf
  have hl : a.length = b.length := by omega
  refine floop (α := Nat) rfl rfl hS (fun i => i ≤ a.length ∧ a.take i = b.take i) (fun i => a.length - i) (fun i => [(5, .d (.int .i64 i)), (0, .d (.sl (lns a))), (1, .d (.sl (lns b)))]) (fun _ => []) (fun _ => []) 0 ⟨Nat.zero_le _, rfl⟩ (fstep_sub ⟨Sub.refl _, Sub.refl _, Sub.refl _, trivial⟩) ?_
  rintro i ⟨h1, h2⟩
  repeat' first | with_reducible refine fzD_ite (fun q => ?_) (fun q => ?_) | ((try conv => whnf); first | refine bs_d (fun q => ?_) (fun q => ?_) <;> (try simp (disch := ((try unfold I64); omega)) only [wi64_id, td] at q) | refine bs_n ?_ | refine bs_i (fun q => ?_) (fun q => ?_) | refine pK_i (iaD_ln (i := i) (by first | rfl | omega | (refine Int.sub_eq_zero.mp ?_; simp (disch := ((try unfold I64); omega)) only [wi64_id, td]; omega)) (by omega)) ?_ | refine eqk rfl ?_ | refine ffin _ rfl rfl hS (Sub.refl _) rfl ⟨?_, rfl, rfl⟩)
  · conv => whnf
    refine fnext (α := Nat) (i + 1) ⟨by omega, take_eq (by omega) (by omega) h2 (ln_t (by assumption))⟩ (by omega) (fstep_sub ⟨Sub.int (by rw [wi64_id]; omega; unfold I64; omega), Sub.refl _, Sub.refl _, trivial⟩)
  · exact congrArg D.bool (decide_eq_false (ne_of_at (i := i) (ln_f (by assumption)))).symm
  · rw [List.take_of_length_le (by omega), List.take_of_length_le (by omega)] at h2
    exact congrArg D.bool (decide_eq_true h2).symm
def Ent.eqB (a b : Ent) : Bool := decide (a.day = b.day) && (decide (a.kind = b.kind) && (decide (a.src = b.src) && decide (a.L = b.L)))
theorem Ent.eqB_self (a : Ent) : a.eqB a = true := by simp [Ent.eqB]
theorem Same (a b : Ent) (ha : a.L.length < 4611686018427387904) (hb : b.L.length < 4611686018427387904) : Pure 17 [a.d, b.d] (.bool (a.eqB b)) := by
  intro S tk
  have h := sameL a.L b.L ha hb
  refine ACalls.fgo c17 rfl fun hS => ?_
  repeat' first | with_reducible refine fzD_ite (fun q => ?_) (fun q => ?_) | ((try conv => whnf); first | refine bs_d (fun q => ?_) (fun q => ?_) | refine bs_n ?_ | refine bs_i (fun q => ?_) (fun q => ?_) | refine ckz (h) ?_ | refine cq (h) ?_ | refine eqk rfl ?_ | refine ffin _ rfl rfl hS (Sub.refl _) rfl ⟨?_, rfl, rfl⟩)
  all_goals simp only [Ent.eqB, tupD, D.bool.injEq]
  all_goals simp [*]
end Go.KL.YtkojphmejddhiaaGreatDoor.J
namespace Go.KL.YtkojphmejddhiaaGreatDoor
open Go Go.KL Go.RowKit Go.Proofs
theorem c100 : cFun E0.P 100 = some ⟨24, [(2, none)], .seq (.rg [⟨some 2, none, .mv (.k (.bool false))⟩]) (.seq (.rg [⟨some 3, none, .mv (.t 0)⟩, ⟨some 4, none, .bin .geq .leaf (.t 3) (.k (.int .i64 1))⟩, ⟨some 5, none, .mv (.t 4)⟩, ⟨some 6, some (5, true), .mv (.t 0)⟩, ⟨some 7, some (5, true), .bin .leq .leaf (.t 6) (.k (.int .i64 9999))⟩, ⟨some 8, none, .pick (.t 5) (.t 7) (.k (.bool false))⟩, ⟨some 9, none, .mv (.t 8)⟩, ⟨some 10, some (9, true), .mv (.t 0)⟩, ⟨some 11, some (9, true), .bin .rem .leaf (.t 10) (.k (.int .i64 4))⟩, ⟨some 12, some (9, true), .bin .eql .leaf (.t 11) (.k (.int .i64 0))⟩, ⟨some 13, none, .pick (.t 9) (.t 12) (.k (.bool false))⟩, ⟨some 14, none, .mv (.t 13)⟩, ⟨some 15, some (14, true), .mv (.t 0)⟩, ⟨some 16, some (14, true), .bin .rem .leaf (.t 15) (.k (.int .i64 100))⟩, ⟨some 17, some (14, true), .bin .neq .leaf (.t 16) (.k (.int .i64 0))⟩, ⟨some 18, some (14, true), .mv (.t 17)⟩, ⟨some 19, some (18, false), .mv (.t 0)⟩, ⟨some 20, some (18, false), .bin .rem .leaf (.t 19) (.k (.int .i64 400))⟩, ⟨some 21, some (18, false), .bin .eql .leaf (.t 20) (.k (.int .i64 0))⟩, ⟨some 22, some (14, true), .pick (.t 18) (.k (.bool true)) (.t 21)⟩, ⟨some 23, none, .pick (.t 14) (.t 22) (.k (.bool false))⟩, ⟨some 2, none, .mv (.t 23)⟩]) .ret)⟩ := by kernel_rfl
theorem c87 : cFun E0.P 87 = some ⟨34, [(4, none)], .seq (.rg [⟨some 4, none, .mv (.k (.int .i64 0))⟩]) (.seq (.rg [⟨some 7, none, .mv (.t 0)⟩, ⟨some 8, none, .bin .sub .leaf (.t 7) (.k (.int .i64 1))⟩, ⟨some 5, none, .mv (.t 8)⟩]) (.seq (.rg [⟨some 9, none, .mv (.t 5)⟩, ⟨some 10, none, .bin .mul .leaf (.k (.int .i64 365)) (.t 9)⟩, ⟨some 11, none, .mv (.t 5)⟩, ⟨some 12, none, .bin .quo .leaf (.t 11) (.k (.int .i64 4))⟩, ⟨some 13, none, .bin .add .leaf (.t 10) (.t 12)⟩, ⟨some 14, none, .mv (.t 5)⟩, ⟨some 15, none, .bin .quo .leaf (.t 14) (.k (.int .i64 100))⟩, ⟨some 16, none, .bin .sub .leaf (.t 13) (.t 15)⟩, ⟨some 17, none, .mv (.t 5)⟩, ⟨some 18, none, .bin .quo .leaf (.t 17) (.k (.int .i64 400))⟩, ⟨some 19, none, .bin .add .leaf (.t 16) (.t 18)⟩, ⟨some 20, none, .mv (.t 1)⟩, ⟨some 21, none, .bin .sub .leaf (.t 20) (.k (.int .i64 1))⟩, ⟨some 22, none, .iaA 13 1 (.g 0) (.t 21)⟩, ⟨some 23, none, .ld 1 false (.t 22)⟩, ⟨some 24, none, .bin .add .leaf (.t 19) (.t 23)⟩, ⟨some 6, none, .mv (.t 24)⟩]) (.seq (.seq (.rg [⟨some 25, none, .mv (.t 1)⟩, ⟨some 26, none, .bin .gtr .leaf (.t 25) (.k (.int .i64 2))⟩, ⟨some 27, none, .mv (.t 26)⟩, ⟨some 28, some (27, true), .mv (.t 0)⟩, ⟨some 29, some (27, true), .call 100 [.t 28]⟩, ⟨some 30, none, .pick (.t 27) (.t 29) (.k (.bool false))⟩]) (.cond (.t 30) (.rg [⟨some 31, none, .mv (.t 6)⟩, ⟨some 32, none, .bin .add .leaf (.t 31) (.k (.int .i64 1))⟩, ⟨some 6, none, .mv (.t 32)⟩]) .skip)) (.seq (.rg [⟨some 33, none, .mv (.t 6)⟩, ⟨some 4, none, .mv (.t 33)⟩]) .ret))))⟩ := by kernel_rfl
theorem c88 : cFun E0.P 88 = some ⟨12, [(2, none), (3, none)], .seq (.rg [⟨some 2, none, .mv (.k (.int .i64 0))⟩, ⟨some 3, none, .mv (.k (.int .i64 0))⟩]) (.seq (.rg [⟨some 4, none, .mv (.t 0)⟩, ⟨some 5, none, .bin .sub .leaf (.t 4) (.k (.int .i64 1))⟩, ⟨some 6, none, .bin .quo .leaf (.t 5) (.k (.int .i64 12))⟩, ⟨some 7, none, .bin .add .leaf (.t 6) (.k (.int .i64 1))⟩, ⟨some 8, none, .mv (.t 0)⟩, ⟨some 9, none, .bin .sub .leaf (.t 8) (.k (.int .i64 1))⟩, ⟨some 10, none, .bin .rem .leaf (.t 9) (.k (.int .i64 12))⟩, ⟨some 11, none, .bin .add .leaf (.t 10) (.k (.int .i64 1))⟩, ⟨some 2, none, .mv (.t 7)⟩, ⟨some 3, none, .mv (.t 11)⟩]) .ret)⟩ := by kernel_rfl
theorem c76 : cFun E0.P 76 = some ⟨27, [(2, none), (3, none), (4, none)], .seq (.rg [⟨some 2, none, .mv (.k (.int .i64 0))⟩, ⟨some 3, none, .mv (.k (.int .i64 0))⟩, ⟨some 4, none, .mv (.k (.int .i64 0))⟩]) (.seq (.seq (.rg [⟨some 5, none, .mv (.t 0)⟩, ⟨some 6, none, .bin .lss .leaf (.t 5) (.k (.int .i64 1))⟩, ⟨some 7, none, .mv (.t 6)⟩, ⟨some 8, some (7, false), .mv (.t 0)⟩, ⟨some 9, some (7, false), .bin .gtr .leaf (.t 8) (.k (.int .i64 119988))⟩, ⟨some 10, none, .pick (.t 7) (.k (.bool true)) (.t 9)⟩]) (.cond (.t 10) (.seq (.rg [⟨some 2, none, .mv (.k (.int .i64 0))⟩, ⟨some 3, none, .mv (.k (.int .i64 0))⟩, ⟨some 4, none, .mv (.k (.int .i64 2))⟩]) .ret) .skip)) (.seq (.rg [⟨some 11, none, .mv (.t 0)⟩, ⟨some 12, none, .call 88 [.t 11]⟩, ⟨some 13, none, .ext 0 (.t 12)⟩, ⟨some 14, none, .ext 1 (.t 12)⟩, ⟨some 15, none, .call 87 [.t 13, .t 14]⟩, ⟨some 16, none, .bin .add .leaf (.t 15) (.k (.int .i64 1))⟩, ⟨some 2, none, .mv (.t 16)⟩]) (.seq (.seq (.rg [⟨some 17, none, .mv (.t 0)⟩, ⟨some 18, none, .bin .eql .leaf (.t 17) (.k (.int .i64 119988))⟩]) (.cond (.t 18) (.seq (.rg [⟨some 19, none, .mv (.t 2)⟩, ⟨some 2, none, .mv (.t 19)⟩, ⟨some 3, none, .mv (.k (.int .i64 3652059))⟩, ⟨some 4, none, .mv (.k (.int .i64 0))⟩]) .ret) .skip)) (.seq (.rg [⟨some 20, none, .mv (.t 2)⟩, ⟨some 21, none, .mv (.t 0)⟩, ⟨some 22, none, .bin .add .leaf (.t 21) (.k (.int .i64 1))⟩, ⟨some 23, none, .call 88 [.t 22]⟩, ⟨some 24, none, .ext 0 (.t 23)⟩, ⟨some 25, none, .ext 1 (.t 23)⟩, ⟨some 26, none, .call 87 [.t 24, .t 25]⟩, ⟨some 2, none, .mv (.t 20)⟩, ⟨some 3, none, .mv (.t 26)⟩, ⟨some 4, none, .mv (.k (.int .i64 0))⟩]) .ret))))⟩ := by kernel_rfl
theorem c58 : cFun E0.P 58 = some ⟨37, [(2, none), (3, none)], .seq (.rg [⟨some 2, none, .mv (.k (.int .i64 0))⟩, ⟨some 3, none, .mv (.k (.int .i64 0))⟩]) (.seq (.seq (.rg [⟨some 10, none, .mv (.t 0)⟩, ⟨some 11, none, .bin .lss .leaf (.t 10) (.k (.int .i64 1))⟩, ⟨some 12, none, .mv (.t 11)⟩, ⟨some 13, some (12, false), .mv (.t 0)⟩, ⟨some 14, some (12, false), .bin .gtr .leaf (.t 13) (.k (.int .i64 3652059))⟩, ⟨some 15, none, .pick (.t 12) (.k (.bool true)) (.t 14)⟩]) (.cond (.t 15) (.seq (.rg [⟨some 2, none, .mv (.k (.int .i64 0))⟩, ⟨some 3, none, .mv (.k (.int .i64 2))⟩]) .ret) .skip)) (.seq (.rg [⟨some 4, none, .mv (.k (.int .i64 1))⟩, ⟨some 5, none, .mv (.k (.int .i64 119988))⟩]) (.seq .skip (.seq (.block 0 (.loop (.block 1 (.seq (.seq (.rg [⟨some 16, none, .mv (.t 4)⟩, ⟨some 17, none, .mv (.t 5)⟩, ⟨some 18, none, .bin .eql .leaf (.t 16) (.t 17)⟩]) (.cond (.t 18) (.exit 0) .skip)) (.seq (.rg [⟨some 19, none, .mv (.t 4)⟩, ⟨some 20, none, .mv (.t 5)⟩, ⟨some 21, none, .bin .add .leaf (.t 19) (.t 20)⟩, ⟨some 22, none, .bin .add .leaf (.t 21) (.k (.int .i64 1))⟩, ⟨some 23, none, .bin .quo .leaf (.t 22) (.k (.int .i64 2))⟩, ⟨some 6, none, .mv (.t 23)⟩]) (.seq (.rg [⟨some 25, none, .mv (.t 6)⟩, ⟨some 26, none, .call 76 [.t 25]⟩, ⟨some 24, none, .mv (.t 26)⟩, ⟨some 27, none, .ext 0 (.t 24)⟩, ⟨some 28, none, .ext 1 (.t 24)⟩, ⟨some 29, none, .ext 2 (.t 24)⟩, ⟨some 7, none, .mv (.t 27)⟩, ⟨some 8, none, .mv (.t 28)⟩, ⟨some 9, none, .mv (.t 29)⟩]) (.seq (.rg [⟨some 30, none, .mv (.t 7)⟩, ⟨some 31, none, .mv (.t 0)⟩, ⟨some 32, none, .bin .leq .leaf (.t 30) (.t 31)⟩]) (.cond (.t 32) (.rg [⟨some 33, none, .mv (.t 6)⟩, ⟨some 4, none, .mv (.t 33)⟩]) (.rg [⟨some 34, none, .mv (.t 6)⟩, ⟨some 35, none, .bin .sub .leaf (.t 34) (.k (.int .i64 1))⟩, ⟨some 5, none, .mv (.t 35)⟩]))))))))) (.seq (.rg [⟨some 36, none, .mv (.t 4)⟩, ⟨some 2, none, .mv (.t 36)⟩, ⟨some 3, none, .mv (.k (.int .i64 0))⟩]) .ret)))))⟩ := by kernel_rfl

def leapB (y : Int) : Bool := decide (1 ≤ y ∧ y ≤ 9999 ∧ y.tmod 4 = 0 ∧ (y.tmod 100 ≠ 0 ∨ y.tmod 400 = 0))
theorem leap (y : Int) : Pure 100 [.int .i64 y] (.bool (leapB y)) := by
  intro S tk
  refine ACalls.fgo c100 rfl fun hS => ?_
  repeat' first | with_reducible refine fzD_ite (fun q => ?_) (fun q => ?_) | ((try conv => whnf); first | refine bs_d (fun q => ?_) (fun q => ?_) | refine bs_n ?_ | refine bs_i (fun q => ?_) (fun q => ?_) | refine eqk rfl ?_ | refine ffin _ rfl rfl hS (Sub.refl _) rfl ⟨?_, rfl, rfl⟩)
  all_goals simp only [tupD, D.bool.injEq, leapB]
  all_goals symm
  all_goals first
    | exact decide_eq_true (by omega)
    | exact decide_eq_false (by omega)
def aheadL : List Int := [0, 31, 59, 90, 120, 151, 181, 212, 243, 273, 304, 334, 365]
def befI (y m : Int) : Int := 365 * (y - 1) + (y - 1) / 4 - (y - 1) / 100 + (y - 1) / 400 + aheadL[(m - 1).toNat]! + (if 2 < m ∧ leapB y = true then 1 else 0)
def aheadE : List D := [.int .i64 0, .int .i64 31, .int .i64 59, .int .i64 90, .int .i64 120, .int .i64 151, .int .i64 181, .int .i64 212, .int .i64 243, .int .i64 273, .int .i64 304, .int .i64 334, .int .i64 365]
theorem ahead_ix {n : Int} {k : Nat} (h : n = k) (hk : k < 13) : (if 0 ≤ n ∧ n < ((13 : Nat) : Int) then ptrAdd (n.toNat * 1) (.pe aheadE 0) else none) = some (.pe aheadE k) := by
  subst h
  rw [if_pos ⟨by omega, by omega⟩]
  simp [ptrAdd]
theorem ahead_ld {k : Nat} (hk : k < 13) : rdC aheadE k 1 false = some (.int .i64 aheadL[k]!) := by
  have : k = 0 ∨ k = 1 ∨ k = 2 ∨ k = 3 ∨ k = 4 ∨ k = 5 ∨ k = 6 ∨ k = 7 ∨ k = 8 ∨ k = 9 ∨ k = 10 ∨ k = 11 ∨ k = 12 := by omega
  rcases this with rfl | rfl | rfl | rfl | rfl | rfl | rfl | rfl | rfl | rfl | rfl | rfl | rfl <;> rfl
theorem ahead_bd {k : Nat} (hk : k < 13) : 0 ≤ aheadL[k]! ∧ aheadL[k]! ≤ 365 := by
  have : k = 0 ∨ k = 1 ∨ k = 2 ∨ k = 3 ∨ k = 4 ∨ k = 5 ∨ k = 6 ∨ k = 7 ∨ k = 8 ∨ k = 9 ∨ k = 10 ∨ k = 11 ∨ k = 12 := by omega
  rcases this with rfl | rfl | rfl | rfl | rfl | rfl | rfl | rfl | rfl | rfl | rfl | rfl | rfl <;> decide
set_option maxHeartbeats 1000000 in
theorem before (y m : Int) (hy : 1 ≤ y ∧ y ≤ 10000) (hm : 1 ≤ m ∧ m ≤ 12) : Pure 87 [.int .i64 y, .int .i64 m] (.int .i64 (befI y m)) := by
  intro S tk
  have hl := leap y
  obtain ⟨k, hk⟩ : ∃ k : Nat, (k : Int) = m - 1 := ⟨(m - 1).toNat, by omega⟩
  have hk13 : k < 13 := by omega
  have hwm : IntKind.wrap .i64 (m - 1) = (k : Int) := by rw [wi64_id (by unfold I64; omega)]; omega
  have hab := ahead_bd hk13
  have htn : (m - 1).toNat = k := by omega
  have e1 : (y - 1).tdiv 4 = (y - 1) / 4 := Int.tdiv_eq_ediv_of_nonneg (by omega)
  have e2 : (y - 1).tdiv 100 = (y - 1) / 100 := Int.tdiv_eq_ediv_of_nonneg (by omega)
  have e3 : (y - 1).tdiv 400 = (y - 1) / 400 := Int.tdiv_eq_ediv_of_nonneg (by omega)
  obtain ⟨b, hb⟩ : ∃ b, b = leapB y := ⟨_, rfl⟩
  unfold befI
  rw [← hb] at hl ⊢
  rw [htn]
  have hld := ahead_ld hk13
  obtain ⟨a, ha⟩ : ∃ a, a = aheadL[k]! := ⟨_, rfl⟩
  rw [← ha] at hab hld ⊢
  refine ACalls.fgo c87 rfl fun hS => ?_
  repeat' first | with_reducible refine fzD_ite (fun q => ?_) (fun q => ?_) | ((try conv => whnf); first | refine bs_d (fun q => ?_) (fun q => ?_) | refine bs_n ?_ | refine bs_i (fun q => ?_) (fun q => ?_) | refine ckz (hl) ?_ | refine cq (hl) ?_ | refine pK_i (ahead_ix hwm hk13) ?_ | refine pK_i hld ?_ | refine eqk rfl ?_ | refine ffin _ rfl rfl hS (Sub.refl _) rfl ⟨?_, rfl, rfl⟩)
  all_goals
    have w0 : IntKind.wrap .i64 (y - 1) = y - 1 := wi64_id (by unfold I64; omega)
    refine congrArg (D.int .i64) ?_
    rw [w0, e1, e2, e3]
    simp (disch := (unfold I64; omega)) only [wi64_id]
    first
      | (rw [if_pos ⟨‹2 < m›, ‹b = true›⟩])
      | (rw [if_neg (fun h => by omega)]; omega)
      | (rw [if_neg (fun h => by have h1 := h.2; simp_all)]; omega)
theorem bef_bd {y m : Int} (hy : 1 ≤ y ∧ y ≤ 10000) (hm : 1 ≤ m ∧ m ≤ 12) : 0 ≤ befI y m ∧ befI y m ≤ 4000000 := by
  have h := ahead_bd (k := (m - 1).toNat) (by omega)
  unfold befI
  split <;> omega
def yI (month : Int) : Int := (month - 1) / 12 + 1
def mI (month : Int) : Int := (month - 1) % 12 + 1
theorem ym_bd {n : Int} (h : 1 ≤ n ∧ n ≤ 119988) : (1 ≤ yI n ∧ yI n ≤ 10000) ∧ (1 ≤ mI n ∧ mI n ≤ 12) := by unfold yI mI; omega
theorem parts (n : Int) (h : 1 ≤ n ∧ n ≤ 119988) : Pure 88 [.int .i64 n] (.tup [.int .i64 (yI n), .int .i64 (mI n)]) := by
  intro S tk
  have e1 : (n - 1).tdiv 12 = (n - 1) / 12 := Int.tdiv_eq_ediv_of_nonneg (by omega)
  have e2 : (n - 1).tmod 12 = (n - 1) % 12 := Int.tmod_eq_emod_of_nonneg (by omega)
  refine ACalls.fgo c88 rfl fun hS => ?_
  repeat' first | with_reducible refine fzD_ite (fun q => ?_) (fun q => ?_) | ((try conv => whnf); first | refine bs_d (fun q => ?_) (fun q => ?_) | refine bs_n ?_ | refine bs_i (fun q => ?_) (fun q => ?_) | refine eqk rfl ?_ | refine ffin _ rfl rfl hS (Sub.refl _) rfl ⟨?_, rfl, rfl⟩)
  have w0 : IntKind.wrap .i64 (n - 1) = n - 1 := wi64_id (by unfold I64; omega)
  show D.tup [.int .i64 _, .int .i64 _] = _
  rw [w0, e1, e2]
  simp (disch := (unfold I64; omega)) only [wi64_id]
  rfl
def firI (n : Int) : Int := befI (yI n) (mI n) + 1
def lasI (n : Int) : Int := if n = 119988 then 3652059 else befI (yI (n + 1)) (mI (n + 1))
theorem fir_bd {n : Int} (h : 1 ≤ n ∧ n ≤ 119988) : 1 ≤ firI n ∧ firI n ≤ 4000001 := by
  obtain ⟨h1, h2⟩ := ym_bd h
  have := bef_bd h1 h2
  unfold firI; omega
theorem days (n : Int) (h : 1 ≤ n ∧ n ≤ 119988) : Pure 76 [.int .i64 n] (.tup [.int .i64 (firI n), .int .i64 (lasI n), .int .i64 0]) := by
  intro S tk
  have hp := parts n h
  obtain ⟨h1, h2⟩ := ym_bd h
  have hb := before (yI n) (mI n) h1 h2
  have hbd := bef_bd h1 h2
  have hw : IntKind.wrap .i64 (befI (yI n) (mI n) + 1) = firI n := wi64_id (by unfold I64; omega)
  by_cases he : n = 119988
  · have hl : lasI n = 3652059 := if_pos he
    rw [hl]
    refine ACalls.fgo c76 rfl fun hS => ?_
    repeat' first | with_reducible refine fzD_ite (fun q => ?_) (fun q => ?_) | ((try conv => whnf); first | refine bs_t (decide_eq_true he) ?_ | refine bs_d (fun q => ?_) (fun q => ?_) | refine bs_n ?_ | refine bs_i (fun q => ?_) (fun q => ?_) | refine ckz (hp) ?_ | refine cq (hp) ?_ | refine ckz (hb) ?_ | refine cq (hb) ?_ | refine eqk rfl ?_ | refine ffin _ rfl rfl hS (Sub.refl _) rfl ⟨?_, rfl, rfl⟩)
    all_goals first
      | (exfalso; omega)
      | exact congrArg (fun z => D.tup [.int .i64 z, .int .i64 3652059, .int .i64 0]) hw
  · have hl : lasI n = befI (yI (n + 1)) (mI (n + 1)) := if_neg he
    rw [hl]
    have hp2 := parts (n + 1) (by omega)
    obtain ⟨h3, h4⟩ := ym_bd (n := n + 1) (by omega)
    have hb2 := before _ _ h3 h4
    have hw1 : IntKind.wrap .i64 (n + 1) = n + 1 := wi64_id (by unfold I64; omega)
    have hp2' : Pure 88 [.int .i64 (IntKind.wrap .i64 (n + 1))] (.tup [.int .i64 (yI (n + 1)), .int .i64 (mI (n + 1))]) := by rw [hw1]; exact hp2
    refine ACalls.fgo c76 rfl fun hS => ?_
    repeat' first | with_reducible refine fzD_ite (fun q => ?_) (fun q => ?_) | ((try conv => whnf); first | refine bs_f (decide_eq_false he) ?_ | refine bs_d (fun q => ?_) (fun q => ?_) | refine bs_n ?_ | refine bs_i (fun q => ?_) (fun q => ?_) | refine ckz (hp) ?_ | refine cq (hp) ?_ | refine ckz (hb) ?_ | refine cq (hb) ?_ | refine ckz (hp2') ?_ | refine cq (hp2') ?_ | refine ckz (hb2) ?_ | refine cq (hb2) ?_ | refine eqk rfl ?_ | refine ffin _ rfl rfl hS (Sub.refl _) rfl ⟨?_, rfl, rfl⟩)
    all_goals first
      | (exfalso; omega)
      | exact congrArg (fun z => D.tup [.int .i64 z, .int .i64 _, .int .i64 0]) hw
def srch (day : Int) : Nat → Int → Int → Int
  | 0, low, _ => low
  | f + 1, low, high => if low = high then low else if firI ((low + high + 1) / 2) ≤ day then srch day f ((low + high + 1) / 2) high else srch day f low ((low + high + 1) / 2 - 1)
def ofI (day : Int) : Int := srch day 17 1 119988
theorem srch_bd (day : Int) : ∀ (f : Nat) (low high : Int), low ≤ high → low ≤ srch day f low high ∧ srch day f low high ≤ high
  | 0, low, high, h => ⟨Int.le_refl _, h⟩
  | f + 1, low, high, h => by
    rw [srch]
    split
    · omega
    · split
      · have := srch_bd day f ((low + high + 1) / 2) high (by omega)
        omega
      · have := srch_bd day f low ((low + high + 1) / 2 - 1) (by omega)
        omega
theorem of_bd (day : Int) : 1 ≤ ofI day ∧ ofI day ≤ 119988 := srch_bd day 17 1 119988 (by omega)
structure OfS where
  f : Nat
  low : Int
  high : Int
set_option maxHeartbeats 1000000 in
theorem of_day (day : Int) : Pure 58 [.int .i64 day] (if 1 ≤ day ∧ day ≤ 3652059 then .tup [.int .i64 (ofI day), .int .i64 0] else .tup [.int .i64 0, .int .i64 2]) := by
  intro S tk
  by_cases hd : 1 ≤ day ∧ day ≤ 3652059
  rotate_left
  · rw [if_neg hd]
    refine ACalls.fgo c58 rfl fun hS => ?_
    repeat' first | with_reducible refine fzD_ite (fun q => ?_) (fun q => ?_) | ((try conv => whnf); first | refine bs_d (fun q => ?_) (fun q => ?_) | refine bs_n ?_ | refine bs_i (fun q => ?_) (fun q => ?_) | refine eqk rfl ?_ | refine ffin _ rfl rfl hS (Sub.refl _) rfl ⟨?_, rfl, rfl⟩)
    all_goals first | rfl | (exfalso; omega)
  rw [if_pos hd]
  refine ACalls.fgo c58 rfl fun hS => ?_
  repeat' first | with_reducible refine fzD_ite (fun q => ?_) (fun q => ?_) | ((try conv => whnf); first | refine bs_f (decide_eq_false (show ¬ day < 1 by omega)) ?_ | refine bs_f (decide_eq_false (show ¬ day > 3652059 by omega)) ?_ | refine bs_d (fun q => ?_) (fun q => ?_) | refine bs_n ?_ | refine bs_i (fun q => ?_) (fun q => ?_) | refine eqk rfl ?_ | refine ffin _ rfl rfl hS (Sub.refl _) rfl ⟨?_, rfl, rfl⟩)
  conv => whnf
  refine floop (α := OfS) rfl rfl hS (fun s => (1 ≤ s.low ∧ s.low ≤ s.high ∧ s.high ≤ 119988) ∧ s.high - s.low < 2 ^ s.f ∧ ofI day = srch day s.f s.low s.high) (fun s => s.f) (fun s => [(4, .d (.int .i64 s.low)), (5, .d (.int .i64 s.high)), (0, .d (.int .i64 day))]) (fun _ => []) (fun _ => []) ⟨17, 1, 119988⟩ ⟨by simp only; omega, by simp only; decide, rfl⟩ (fstep_sub ⟨Sub.refl _, Sub.refl _, Sub.refl _, trivial⟩) ?_
  rintro ⟨f, low, high⟩ ⟨hb, hf, hs⟩
  simp only at hb hf hs ⊢
  by_cases he : low = high
  · have hr : ofI day = low := by
      rw [hs]
      cases f with
      | zero => rfl
      | succ f => rw [srch, if_pos he]
    rw [hr]
    repeat' first | with_reducible refine fzD_ite (fun q => ?_) (fun q => ?_) | ((try conv => whnf); first | refine bs_t (decide_eq_true he) ?_ | refine bs_d (fun q => ?_) (fun q => ?_) | refine bs_n ?_ | refine bs_i (fun q => ?_) (fun q => ?_) | refine eqk rfl ?_ | refine ffin _ rfl rfl hS (Sub.refl _) rfl ⟨?_, rfl, rfl⟩)
    all_goals rfl
  · cases f with
    | zero => exfalso; simp at hf; omega
    | succ f =>
      rw [srch, if_neg he] at hs
      obtain ⟨m, hm⟩ : ∃ m, m = (low + high + 1) / 2 := ⟨_, rfl⟩
      rw [← hm] at hs
      have hdy := days m (by omega)
      have hp2 : (2 : Int) ^ (f + 1) = 2 * 2 ^ f := by rw [Int.pow_succ]; omega
      rw [hp2] at hf
      obtain ⟨pw, hpw⟩ : ∃ pw : Int, pw = 2 ^ f := ⟨_, rfl⟩
      rw [← hpw] at hf
      have hw : IntKind.wrap .i64 ((IntKind.wrap .i64 (IntKind.wrap .i64 (low + high) + 1)).tdiv 2) = m := by
        rw [wi64_id (n := low + high) (by unfold I64; omega), wi64_id (n := low + high + 1) (by unfold I64; omega), Int.tdiv_eq_ediv_of_nonneg (by omega), ← hm]
        exact wi64_id (by unfold I64; omega)
      have hdy' : Pure 76 [.int .i64 (IntKind.wrap .i64 ((IntKind.wrap .i64 (IntKind.wrap .i64 (low + high) + 1)).tdiv 2))] (.tup [.int .i64 (firI m), .int .i64 (lasI m), .int .i64 0]) := by rw [hw]; exact hdy
      by_cases hc : firI m ≤ day
      · rw [if_pos hc] at hs
        repeat' first | with_reducible refine fzD_ite (fun q => ?_) (fun q => ?_) | ((try conv => whnf); first | refine bs_f (decide_eq_false he) ?_ | refine bs_t (decide_eq_true hc) ?_ | refine bs_d (fun q => ?_) (fun q => ?_) | refine bs_n ?_ | refine bs_i (fun q => ?_) (fun q => ?_) | refine ckz (hdy') ?_ | refine cq (hdy') ?_ | refine eqk rfl ?_ | refine ffin _ rfl rfl hS (Sub.refl _) rfl ⟨?_, rfl, rfl⟩)
        conv => whnf
        exact fnext (α := OfS) ⟨f, m, high⟩ ⟨by simp only; omega, by simp only; rw [← hpw]; omega, hs⟩ (by simp only; omega) (fstep_sub ⟨Sub.int hw, Sub.refl _, Sub.refl _, trivial⟩)
      · rw [if_neg hc] at hs
        repeat' first | with_reducible refine fzD_ite (fun q => ?_) (fun q => ?_) | ((try conv => whnf); first | refine bs_f (decide_eq_false he) ?_ | refine bs_f (decide_eq_false hc) ?_ | refine bs_d (fun q => ?_) (fun q => ?_) | refine bs_n ?_ | refine bs_i (fun q => ?_) (fun q => ?_) | refine ckz (hdy') ?_ | refine cq (hdy') ?_ | refine eqk rfl ?_ | refine ffin _ rfl rfl hS (Sub.refl _) rfl ⟨?_, rfl, rfl⟩)
        conv => whnf
        exact fnext (α := OfS) ⟨f, low, m - 1⟩ ⟨by simp only; omega, by simp only; rw [← hpw]; omega, hs⟩ (by simp only; omega) (fstep_sub ⟨Sub.refl _, Sub.int (by rw [hw]; exact wi64_id (by unfold I64; omega)), Sub.refl _, trivial⟩)
end Go.KL.YtkojphmejddhiaaGreatDoor
namespace Go.KL.YtkojphmejddhiaaGreatDoor.J
open Go Go.KL Go.RowKit Go.Proofs Go.KL.YtkojphmejddhiaaGreatDoor
theorem c59 : cFun E0.P 59 = some ⟨12, [(2, none)], .seq (.rg [⟨some 1, none, .box (.t 0) 35⟩, ⟨some 2, none, .mv (.k .nilfn)⟩]) (.seq (.rg [⟨some 6, none, .fa 0 (.t 1)⟩, ⟨some 7, none, .ld 1 false (.t 6)⟩, ⟨some 8, none, .call 58 [.t 7]⟩, ⟨some 5, none, .mv (.t 8)⟩, ⟨some 9, none, .ext 0 (.t 5)⟩, ⟨some 10, none, .ext 1 (.t 5)⟩, ⟨some 3, none, .alloc [.int .i64 0] 3⟩, ⟨none, none, .st 1 (.t 3) (.t 9)⟩, ⟨some 4, none, .mv (.t 10)⟩]) (.seq (.rg [⟨some 11, none, .mkfn 77 [.t 1, .t 3]⟩, ⟨some 2, none, .mv (.t 11)⟩]) .ret))⟩ := by kernel_rfl
theorem c77 : cFun E0.P 77 = some ⟨38, [], .seq (.rg [⟨some 8, none, .fa 3 (.t 1)⟩, ⟨some 9, none, .ld 1 false (.t 8)⟩, ⟨some 10, none, .len 1 (.t 9)⟩, ⟨some 11, none, .mv (.k (.int .i64 0))⟩]) (.block 0 (.loop (.seq (.rg [⟨some 12, none, .bin .lss .leaf (.t 11) (.t 10)⟩]) (.seq (.cond (.t 12) .skip (.exit 0)) (.seq (.block 1 (.seq (.rg [⟨some 13, none, .ia 4 (.t 9) (.t 11)⟩, ⟨some 14, none, .ld 4 true (.t 13)⟩, ⟨some 5, none, .alloc [.int .i64 0, .int .u64 0, .int .u64 0, .int .i64 0] 85⟩, ⟨none, none, .st 4 (.t 5) (.t 14)⟩]) (.seq (.rg [⟨some 15, none, .fa 1 (.t 5)⟩, ⟨some 16, none, .ld 1 false (.t 15)⟩, ⟨some 17, none, .fa 2 (.t 5)⟩, ⟨some 18, none, .ld 1 false (.t 17)⟩, ⟨some 19, none, .ld 1 false (.t 2)⟩, ⟨some 20, none, .conv .u64 (.t 19)⟩, ⟨some 21, none, .build [.int .u64 0, .int .u64 0, .int .u64 0, .int .u64 0] [(0, 1, .k (.int .u64 0)), (1, 1, .t 16), (2, 1, .t 18), (3, 1, .t 20)]⟩, ⟨some 22, none, .mv (.k (.int .i64 0))⟩]) (.block 2 (.loop (.seq (.rg [⟨some 23, none, .bin .lss .leaf (.t 22) (.k (.int .i64 4))⟩]) (.seq (.cond (.t 23) .skip (.exit 2)) (.seq (.block 3 (.seq (.rg [⟨some 24, none, .mv (.t 22)⟩, ⟨some 25, none, .ixA 4 1 false (.t 21) (.t 22)⟩, ⟨some 6, none, .mv (.t 24)⟩, ⟨some 7, none, .mv (.t 25)⟩]) (.seq (.rg [⟨some 26, none, .mv (.t 0)⟩, ⟨some 27, none, .fa 0 (.t 5)⟩, ⟨some 28, none, .ld 1 false (.t 27)⟩, ⟨some 29, none, .mv (.t 6)⟩, ⟨some 30, none, .mv (.t 7)⟩, ⟨some 31, none, .build [.int .i64 0, .int .i64 0, .int .u64 0] [(0, 1, .t 28), (1, 1, .t 29), (2, 1, .t 30)]⟩, ⟨some 32, none, .fa 3 (.t 5)⟩, ⟨some 33, none, .ld 1 false (.t 32)⟩, ⟨some 34, none, .callv (.t 26) [.t 31, .t 33]⟩, ⟨some 35, none, .un .not (.t 34)⟩]) (.cond (.t 35) .ret .skip)))) (.rg [⟨some 36, none, .bin .add .leaf (.t 22) (.k (.int .i64 1))⟩, ⟨some 22, none, .mv (.t 36)⟩]))))))))) (.rg [⟨some 37, none, .bin .add .leaf (.t 11) (.k (.int .i64 1))⟩, ⟨some 11, none, .mv (.t 37)⟩]))))))⟩ := by kernel_rfl

abbrev Slot := Int × Int × Int
def sD (s : Slot) : D := .agg [.int .i64 s.1, .int .i64 s.2.1, .int .u64 s.2.2]
def slotK (day : Int) (x : Ln) : Nat → Slot
  | 0 => (x.acc, 0, 0)
  | 1 => (x.acc, 1, x.cus)
  | 2 => (x.acc, 2, x.con)
  | _ => (x.acc, 3, ofI day)
def entC (e : Ent) : List D := [.int .i64 e.day, .int .u8 e.kind, .int .u64 e.src, .sl (lns e.L)]
theorem slots (e : Ent) (hd : 1 ≤ e.day ∧ e.day ≤ 3652059) (S : List O) (tk : Tks) :
    ACalls E0 59 [e.d] S tk (fun r S' tk' => r = .fn 77 [.po S.length 0, .po (S.length + 1) 0] ∧ S' = S ++ [.arr (entC e), .arr [.int .i64 (ofI e.day)]] ∧ tk' = tk) := by
  have ho := of_day e.day
  rw [if_pos hd] at ho
  refine ACalls.fgo c59 rfl fun hS => ?_
  repeat' first | with_reducible refine fzD_ite (fun q => ?_) (fun q => ?_) | ((try conv => whnf); first | refine bs_d (fun q => ?_) (fun q => ?_) | refine bs_n ?_ | refine bs_i (fun q => ?_) (fun q => ?_) | refine ckz (ho) ?_ | refine cq (ho) ?_ | refine ffinJ ⟨?_, rfl, List.append_nil _⟩ | refine eqk rfl ?_ | refine ffin _ rfl rfl hS (Sub.refl _) rfl ⟨?_, rfl, rfl⟩)
  all_goals rfl
structure SlS where
  k : Nat
set_option maxHeartbeats 2000000 in
theorem slots1 (e : Ent) (hl : e.L.length < 1000000) {ce ci yid n : Nat} (G : Nat → List O) (H : Nat → Tks) (hce : ∀ i, (G i)[ce]? = some (.arr (entC e))) (hci : ∀ i, (G i)[ci]? = some (.arr [.int .i64 (ofI e.day)]))
    (hyn : yid < n) (hn : ∀ i, (G i).length = n) (hm : ∀ i, (H 0).length ≤ (H i).length) (hosc : ∀ i, OSc n (H i).length (G i))
    (hy : ∀ i k, i < e.L.length → k < 4 → ∀ J, AYields E0 yid [sD (slotK e.day e.L[i]! k), .int .i64 (e.L[i]!).amt] (G (4 * i + k) ++ J) (H (4 * i + k)) (fun r S' tk' => r = .bool true ∧ S' = G (4 * i + k + 1) ++ J ∧ tk' = H (4 * i + k + 1))) :
    ACalls E0 77 [.yld yid, .po ce 0, .po ci 0] (G 0) (H 0) (fun r S' tk' => r = .tup [] ∧ S' = G (4 * e.L.length) ∧ tk' = H (4 * e.L.length)) := by
  have hlen := lns_len e.L
  have hlT : ∀ i, ((H i).take (H 0).length).length = (H 0).length := fun i => by rw [List.length_take]; have := hm i; omega
  have hcel : ce < n := by rw [← hn 0]; exact (List.getElem?_eq_some_iff.1 (hce 0)).1
  have hcil : ci < n := by rw [← hn 0]; exact (List.getElem?_eq_some_iff.1 (hci 0)).1
  have hwo : IntKind.wrap .u64 (ofI e.day) = ofI e.day := by have := of_bd e.day; rw [wu64]; omega
  refine ACalls.fgo c77 rfl fun hS => ?_
  repeat' first | with_reducible refine fzD_ite (fun q => ?_) (fun q => ?_) | ((try conv => whnf); first | refine bs_d (fun q => ?_) (fun q => ?_) | refine bs_n ?_ | refine bs_i (fun q => ?_) (fun q => ?_) | refine pK_i (ldO_old (hce 0) rfl) ?_ | refine eqk rfl ?_ | refine ffin _ rfl rfl hS (Sub.refl _) rfl ⟨?_, rfl, rfl⟩)
  conv => whnf
  refine floopW (α := Nat) (fun i => i ≤ e.L.length) (fun i => e.L.length - i) (fun i => [(11, .d (.int .i64 i)), (10, .d (.int .i64 e.L.length)), (9, .d (.sl (lns e.L))), (0, .d (.yld yid)), (1, .d (.po ce 0)), (2, .d (.po ci 0))]) (fun i => G (4 * i)) (fun _ => []) (fun i => (H (4 * i)).take (H 0).length) (fun i => (H (4 * i)).drop (H 0).length) (fun i _ => ⟨by rw [hn, hn], hlT _⟩) 0 (Nat.zero_le _) (fstp_sub rfl (by rw [List.take_append_drop]; simp) ⟨Sub.refl _, Sub.int (by rw [hlen]), Sub.refl _, Sub.refl _, Sub.refl _, Sub.refl _, trivial⟩) ?_
  intro i hi
  by_cases hlt : i < e.L.length
  rotate_left
  · obtain rfl : i = e.L.length := by omega
    repeat' first | with_reducible refine fzD_ite (fun q => ?_) (fun q => ?_) | ((try conv => whnf); first | refine bs_f (decide_eq_false (by omega)) ?_ | refine bs_d (fun q => ?_) (fun q => ?_) | refine bs_n ?_ | refine bs_i (fun q => ?_) (fun q => ?_) | refine ffinK (d' := .tup []) (S1 := G (4 * e.L.length)) (J1 := []) (T1 := H (4 * e.L.length)) (TX := []) rfl (by rw [List.take_append_drop, List.append_nil]) (by rw [hn, hn]; omega) (hm _) (Sub.refl _) rfl (by rw [hn]; exact hosc _) ⟨rfl, rfl, rfl⟩ | refine eqk rfl ?_ | refine ffin _ rfl rfl hS (Sub.refl _) rfl ⟨?_, rfl, rfl⟩)
  · skip
    repeat' first | with_reducible refine fzD_ite (fun q => ?_) (fun q => ?_) | ((try conv => whnf); first | refine bs_t (decide_eq_true (by omega)) ?_ | refine bs_d (fun q => ?_) (fun q => ?_) | refine bs_n ?_ | refine bs_i (fun q => ?_) (fun q => ?_) | refine pK_i (iaD_ln (i := i) rfl hlt) ?_ | refine pK_i (ldO_old (hci _) rfl) ?_ | refine eqk rfl ?_ | refine ffin _ rfl rfl hS (Sub.refl _) rfl ⟨?_, rfl, rfl⟩)
    conv => whnf
    refine floopW (α := SlS) (fun s => s.k ≤ 4) (fun s => 4 - s.k) (fun s => [(22, .d (.int .i64 s.k)), (21, .d (.agg [.int .u64 0, .int .u64 (e.L[i]!).cus, .int .u64 (e.L[i]!).con, .int .u64 (ofI e.day)])), (5, .lp 0 0), (11, .d (.int .i64 i)), (10, .d (.int .i64 e.L.length)), (9, .d (.sl (lns e.L))), (0, .d (.yld yid)), (1, .d (.po ce 0)), (2, .d (.po ci 0))]) (fun s => G (4 * i + s.k)) (fun _ => [.arr (e.L[i]!).cs]) (fun s => (H (4 * i + s.k)).take (H 0).length) (fun s => (H (4 * i + s.k)).drop (H 0).length) (fun s _ => ⟨by rw [hn, hn], hlT _⟩) ⟨0⟩ (Nat.zero_le _) (fstp_sub rfl rfl ⟨Sub.refl _, Sub.of (by rw [hwo]; rfl), Sub.refl _, Sub.refl _, Sub.refl _, Sub.refl _, Sub.refl _, Sub.refl _, Sub.refl _, trivial⟩) ?_
    rintro ⟨k⟩ hk
    simp only at hk ⊢
    have : k = 0 ∨ k = 1 ∨ k = 2 ∨ k = 3 ∨ k = 4 := by omega
    rcases this with rfl | rfl | rfl | rfl | rfl
    · have hY := hy i 0 hlt (by omega)
      repeat' first | with_reducible refine fzD_ite (fun q => ?_) (fun q => ?_) | ((try conv => whnf); first | refine bs_d (fun q => ?_) (fun q => ?_) | refine bs_n ?_ | refine bs_i (fun q => ?_) (fun q => ?_) | (refine ykG (by rw [List.take_append_drop]; exact hY _) ?_; rintro r S' tk' ⟨rfl, rfl, rfl⟩; refine ⟨_, _, _, _, rfl, (List.take_append_drop (H 0).length _).symm, (by rw [hn, hn]), hlT _, ?_⟩) | refine eqk rfl ?_ | refine ffin _ rfl rfl hS (Sub.refl _) rfl ⟨?_, rfl, rfl⟩)
      conv => whnf
      exact fnextW (α := SlS) ⟨1⟩ (by simp only; omega) (by simp only; omega) (fstp_sub rfl rfl ⟨Sub.int (by first | rfl | omega | (refine Int.sub_eq_zero.mp ?_; simp (disch := ((try unfold I64); omega)) only [wi64_id, td]; omega)), Sub.refl _, Sub.refl _, Sub.refl _, Sub.refl _, Sub.refl _, Sub.refl _, Sub.refl _, Sub.refl _, trivial⟩)
    · have hY := hy i 1 hlt (by omega)
      repeat' first | with_reducible refine fzD_ite (fun q => ?_) (fun q => ?_) | ((try conv => whnf); first | refine bs_d (fun q => ?_) (fun q => ?_) | refine bs_n ?_ | refine bs_i (fun q => ?_) (fun q => ?_) | (refine ykG (by rw [List.take_append_drop]; exact hY _) ?_; rintro r S' tk' ⟨rfl, rfl, rfl⟩; refine ⟨_, _, _, _, rfl, (List.take_append_drop (H 0).length _).symm, (by rw [hn, hn]), hlT _, ?_⟩) | refine eqk rfl ?_ | refine ffin _ rfl rfl hS (Sub.refl _) rfl ⟨?_, rfl, rfl⟩)
      conv => whnf
      exact fnextW (α := SlS) ⟨2⟩ (by simp only; omega) (by simp only; omega) (fstp_sub rfl rfl ⟨Sub.int (by first | rfl | omega | (refine Int.sub_eq_zero.mp ?_; simp (disch := ((try unfold I64); omega)) only [wi64_id, td]; omega)), Sub.refl _, Sub.refl _, Sub.refl _, Sub.refl _, Sub.refl _, Sub.refl _, Sub.refl _, Sub.refl _, trivial⟩)
    · have hY := hy i 2 hlt (by omega)
      repeat' first | with_reducible refine fzD_ite (fun q => ?_) (fun q => ?_) | ((try conv => whnf); first | refine bs_d (fun q => ?_) (fun q => ?_) | refine bs_n ?_ | refine bs_i (fun q => ?_) (fun q => ?_) | (refine ykG (by rw [List.take_append_drop]; exact hY _) ?_; rintro r S' tk' ⟨rfl, rfl, rfl⟩; refine ⟨_, _, _, _, rfl, (List.take_append_drop (H 0).length _).symm, (by rw [hn, hn]), hlT _, ?_⟩) | refine eqk rfl ?_ | refine ffin _ rfl rfl hS (Sub.refl _) rfl ⟨?_, rfl, rfl⟩)
      conv => whnf
      exact fnextW (α := SlS) ⟨3⟩ (by simp only; omega) (by simp only; omega) (fstp_sub rfl rfl ⟨Sub.int (by first | rfl | omega | (refine Int.sub_eq_zero.mp ?_; simp (disch := ((try unfold I64); omega)) only [wi64_id, td]; omega)), Sub.refl _, Sub.refl _, Sub.refl _, Sub.refl _, Sub.refl _, Sub.refl _, Sub.refl _, Sub.refl _, trivial⟩)
    · have hY := hy i 3 hlt (by omega)
      repeat' first | with_reducible refine fzD_ite (fun q => ?_) (fun q => ?_) | ((try conv => whnf); first | refine bs_d (fun q => ?_) (fun q => ?_) | refine bs_n ?_ | refine bs_i (fun q => ?_) (fun q => ?_) | (refine ykG (by rw [List.take_append_drop]; (try rw [show sD (slotK e.day e.L[i]! 3) = .agg [.int .i64 (e.L[i]!).acc, .int .i64 3, .int .u64 (ofI e.day)] from rfl] at hY); exact hY _) ?_; rintro r S' tk' ⟨rfl, rfl, rfl⟩; refine ⟨_, _, _, _, rfl, (List.take_append_drop (H 0).length _).symm, (by rw [hn, hn]), hlT _, ?_⟩) | refine eqk rfl ?_ | refine ffin _ rfl rfl hS (Sub.refl _) rfl ⟨?_, rfl, rfl⟩)
      conv => whnf
      exact fnextW (α := SlS) ⟨4⟩ (by simp only; omega) (by simp only; omega) (fstp_sub rfl rfl ⟨Sub.int (by first | rfl | omega | (refine Int.sub_eq_zero.mp ?_; simp (disch := ((try unfold I64); omega)) only [wi64_id, td]; omega)), Sub.refl _, Sub.refl _, Sub.refl _, Sub.refl _, Sub.refl _, Sub.refl _, Sub.refl _, Sub.refl _, trivial⟩)
    · have hg : G (4 * i + 4) = G (4 * (i + 1)) := rfl
      repeat' first | with_reducible refine fzD_ite (fun q => ?_) (fun q => ?_) | ((try conv => whnf); first | refine bs_d (fun q => ?_) (fun q => ?_) | refine bs_n ?_ | refine bs_i (fun q => ?_) (fun q => ?_) | refine eqk rfl ?_ | refine ffin _ rfl rfl hS (Sub.refl _) rfl ⟨?_, rfl, rfl⟩)
      conv => whnf
      exact fnextW (α := Nat) (i + 1) (by omega) (by omega) (fstp_drop (J' := []) (Jx := [_]) rfl rfl ⟨Sub.int (by first | rfl | omega | (refine Int.sub_eq_zero.mp ?_; simp (disch := ((try unfold I64); omega)) only [wi64_id, td]; omega)), Sub.refl _, Sub.refl _, Sub.refl _, Sub.refl _, Sub.refl _, trivial⟩ (by rw [List.append_nil, hn, hn]; omega) (by rw [List.take_append_drop]; exact hm _)
        (by rw [List.append_nil, hn, List.take_append_drop]; simp [frD, FD.to, frSc, D.sc, scLL_lns, hcel, hcil, hyn]) (by rw [List.append_nil, hn, List.take_append_drop]; exact hosc _))
abbrev kSl : KT := .agg [.i .i64, .i .i64, .i .u64]
theorem keyB_sD (a b : Ti) : keyB (sD a) (sD b) = decide (a = b) := by
  obtain ⟨a1, a2, a3⟩ := a
  obtain ⟨b1, b2, b3⟩ := b
  simp only [keyB, sD, lfsB, lfB, Prod.mk.injEq, Bool.and_true, Bool.decide_and]
theorem kOK_sD (t : Ti) : kOK kSl (sD t) = true := rfl
theorem snoc_ind {α : Type} {p : List α → Prop} (h0 : p []) (hs : ∀ l x, p l → p (l ++ [x])) (l : List α) : p l := by
  have : ∀ r : List α, p r.reverse := fun r => by
    induction r with
    | nil => exact h0
    | cons x r ih => rw [List.reverse_cons]; exact hs _ _ ih
  have h := this l.reverse
  rwa [List.reverse_reverse] at h
def tts (l : List Ln) : List Ti := l.foldl (fun ts x => if x.t ∈ ts then ts else ts ++ [x.t]) []
theorem tts_snoc (l : List Ln) (x : Ln) : tts (l ++ [x]) = if x.t ∈ tts l then tts l else tts l ++ [x.t] := by
  unfold tts; rw [List.foldl_append]; rfl
theorem mem_tts (l : List Ln) : ∀ t, t ∈ tts l ↔ t ∈ l.map Ln.t := by
  refine snoc_ind (p := fun l => ∀ t, t ∈ tts l ↔ t ∈ l.map Ln.t) ?_ ?_ l
  · simp [tts]
  · intro l x ih t
    rw [tts_snoc]
    simp only [List.map_append, List.map_cons, List.map_nil, List.mem_append, List.mem_singleton, ← ih]
    split
    · constructor
      · exact .inl
      · rintro (h | rfl)
        · exact h
        · assumption
    · simp
theorem nd_tts (l : List Ln) : (tts l).Nodup := by
  refine snoc_ind (p := fun l => (tts l).Nodup) List.nodup_nil ?_ l
  · intro l x ih
    rw [tts_snoc]
    split
    · exact ih
    · rename_i h
      exact List.nodup_append.2 ⟨ih, by simp, fun a ha b hb hab => h (by rw [List.mem_singleton.1 hb] at hab; exact hab ▸ ha)⟩
theorem tts_len (l : List Ln) : (tts l).length ≤ l.length := by
  refine snoc_ind (p := fun l => (tts l).length ≤ l.length) (by simp [tts]) ?_ l
  · intro l x ih
    rw [tts_snoc, List.length_append]
    split <;> simp <;> omega
theorem amtsT_snoc (l : List Ln) (x : Ln) (t : Ti) : amtsT (l ++ [x]) t = amtsT l t ++ if x.t = t then [x.amt] else [] := by
  rw [amtsT_app]
  by_cases h : x.t = t <;> simp [amtsT, h]

def kvT (m0 : Nat) (l : List Ln) : List Ti → Nat → Kv
  | [], _ => []
  | t :: r, n => (sD t, .gsl (i64s (amtsT l t)) (m0 + n), n) :: kvT m0 l r (n + 1)
def tksT (l : List Ln) (e : TypeId) (ts : List Ti) : Tks := ts.map fun t => ((amtsT l t).length, e, 1)
theorem mfind_some' (m0 : Nat) (l : List Ln) (t : Ti) : ∀ (ts : List Ti) (n : Nat), t ∈ ts → ∃ i, ts[i]? = some t ∧ mfind (kvT m0 l ts n) (sD t) = some (sD t, .gsl (i64s (amtsT l t)) (m0 + (n + i)), n + i)
  | [], n, h => by cases h
  | s :: r, n, h => by
    by_cases hs : t = s
    · subst hs
      exact ⟨0, rfl, by simp [mfind, kvT, keyB_sD]⟩
    · obtain ⟨i, h1, h2⟩ := mfind_some' m0 l t r (n + 1) ((List.mem_cons.1 h).resolve_left hs)
      refine ⟨i + 1, by simpa using h1, ?_⟩
      rw [show n + (i + 1) = n + 1 + i from by omega, ← h2]
      simp [mfind, kvT, keyB_sD, hs]
theorem mfind_none' (m0 : Nat) (l : List Ln) (t : Ti) : ∀ (ts : List Ti) (n : Nat), t ∉ ts → mfind (kvT m0 l ts n) (sD t) = none
  | [], n, h => rfl
  | s :: r, n, h => by
    simp only [List.mem_cons, not_or] at h
    have := mfind_none' m0 l t r (n + 1) h.2
    simp only [mfind] at this
    simp [mfind, kvT, keyB_sD, h.1, this]
theorem kvT_other {m0 : Nat} {l : List Ln} {x : Ln} : ∀ (ts : List Ti) (n : Nat), x.t ∉ ts → kvT m0 (l ++ [x]) ts n = kvT m0 l ts n
  | [], n, h => rfl
  | s :: r, n, h => by
    simp only [List.mem_cons, not_or] at h
    rw [kvT, kvT, kvT_other r (n + 1) h.2, amtsT_snoc, if_neg h.1, List.append_nil]
theorem mrepl_kvT (m0 : Nat) (l : List Ln) (x : Ln) : ∀ (ts : List Ti) (n i : Nat), ts.Nodup → ts[i]? = some x.t →
    mrepl (kvT m0 l ts n) (sD x.t) (.gsl (i64s (amtsT l x.t) ++ i64s [x.amt]) (m0 + (n + i))) = kvT m0 (l ++ [x]) ts n
  | [], n, i, _, h => by simp at h
  | s :: r, n, i, hn, h => by
    simp only [List.nodup_cons] at hn
    cases i with
    | zero =>
      simp only [List.getElem?_cons_zero, Option.some.injEq] at h
      subst h
      rw [kvT, kvT, mrepl, keyB_sD, decide_eq_true rfl, if_pos rfl, kvT_other r (n + 1) hn.1, amtsT_snoc, if_pos rfl]
      simp [i64s]
    | succ i =>
      simp only [List.getElem?_cons_succ] at h
      have hm : x.t ∈ r := List.mem_of_getElem? h
      have hne : ¬ x.t = s := fun e => hn.1 (e ▸ hm)
      have ih := mrepl_kvT m0 l x r (n + 1) i hn.2 h
      rw [show n + 1 + i = n + (i + 1) from by omega] at ih
      rw [kvT, kvT, mrepl, keyB_sD, decide_eq_false hne, if_neg (by simp), ih, amtsT_snoc, if_neg hne, List.append_nil]
theorem kvT_app (m0 : Nat) (l : List Ln) : ∀ (ts : List Ti) (t : Ti) (n : Nat), kvT m0 l (ts ++ [t]) n = kvT m0 l ts n ++ [(sD t, .gsl (i64s (amtsT l t)) (m0 + (n + ts.length)), n + ts.length)]
  | [], t, n => rfl
  | s :: r, t, n => by
    rw [List.cons_append, kvT, kvT_app m0 l r t (n + 1), kvT, List.length_cons, show n + 1 + r.length = n + (r.length + 1) from by omega]; rfl
theorem tksT_set {l : List Ln} {x : Ln} {e : TypeId} {ts : List Ti} {i : Nat} (hn : ts.Nodup) (h : ts[i]? = some x.t) : (tksT l e ts).set i ((amtsT l x.t).length + 1, e, 1) = tksT (l ++ [x]) e ts := by
  refine List.ext_getElem? fun j => ?_
  rw [tksT, tksT, List.getElem?_map]
  by_cases hj : i = j
  · subst hj
    rw [List.getElem?_set_self (by rw [List.length_map]; exact (List.getElem?_eq_some_iff.1 h).1), h]
    simp [amtsT_snoc]
  · rw [List.getElem?_set_ne hj, List.getElem?_map]
    cases hs : ts[j]? with
    | none => rfl
    | some s =>
      have hne : ¬ x.t = s := fun e => hj (by
        have h1 := (List.getElem?_eq_some_iff.1 h).1
        exact (List.getElem?_inj h1 hn).1 (by rw [h, hs, e]))
      simp [amtsT_snoc, hne]
theorem tksT_other {l : List Ln} {x : Ln} {e : TypeId} {ts : List Ti} (h : x.t ∉ ts) : tksT (l ++ [x]) e ts = tksT l e ts := by
  refine List.map_congr_left fun t ht => ?_
  have hne : ¬ x.t = t := fun e => h (e ▸ ht)
  rw [amtsT_snoc, if_neg hne, List.append_nil]

theorem tidy_old (m0 : Nat) (l : List Ln) (x : Ln) (e : TypeId) (h : x.t ∈ tts l) : ∃ i, (tksT l e (tts l))[i]? = some ((i64s (amtsT l x.t)).length, e, 1) ∧
    mget .nilsl (kvT m0 l (tts l) 0) (sD x.t) = .gsl (i64s (amtsT l x.t)) (m0 + i) ∧
    mset (kvT m0 l (tts l) 0) (tts l).length (sD x.t) (.gsl (i64s (amtsT l x.t) ++ i64s [x.amt]) (m0 + i)) = kvT m0 (l ++ [x]) (tts (l ++ [x])) 0 ∧
    mclk (kvT m0 l (tts l) 0) (tts l).length (sD x.t) = (tts (l ++ [x])).length ∧
    (tksT l e (tts l)).set i ((i64s (amtsT l x.t) ++ i64s [x.amt]).length, e, 1) = tksT (l ++ [x]) e (tts (l ++ [x])) := by
  obtain ⟨i, h1, h2⟩ := mfind_some' m0 l x.t (tts l) 0 h
  rw [Nat.zero_add] at h2
  refine ⟨i, by rw [tksT, List.getElem?_map, h1, i64s_len]; rfl, by rw [mget, h2], ?_, by rw [mclk, h2, tts_snoc, if_pos h], ?_⟩
  · rw [mset, h2, tts_snoc, if_pos h]
    have := mrepl_kvT m0 l x (tts l) 0 i (nd_tts l) h1
    rwa [Nat.zero_add] at this
  · rw [tts_snoc, if_pos h, ← tksT_set (nd_tts l) h1, List.length_append, i64s_len, i64s_len]; rfl
theorem tidy_new (m0 : Nat) (l : List Ln) (x : Ln) (e : TypeId) (h : x.t ∉ tts l) :
    mget .nilsl (kvT m0 l (tts l) 0) (sD x.t) = .nilsl ∧
    mset (kvT m0 l (tts l) 0) (tts l).length (sD x.t) (.gsl (i64s [x.amt]) (m0 + (tksT l e (tts l)).length)) = kvT m0 (l ++ [x]) (tts (l ++ [x])) 0 ∧
    mclk (kvT m0 l (tts l) 0) (tts l).length (sD x.t) = (tts (l ++ [x])).length ∧
    tksT l e (tts l) ++ [((i64s [x.amt]).length, e, 1)] = tksT (l ++ [x]) e (tts (l ++ [x])) := by
  have h2 := mfind_none' m0 l x.t (tts l) 0 h
  have h3 : amtsT (l ++ [x]) x.t = [x.amt] := by rw [amtsT_snoc, if_pos rfl, amtsT_none (fun hm => h ((mem_tts l _).2 hm))]; rfl
  refine ⟨by rw [mget, h2], ?_, by rw [mclk, h2, tts_snoc, if_neg h]; simp, ?_⟩
  · rw [mset, h2, tts_snoc, if_neg h, kvT_app, kvT_other _ _ h, h3, Nat.zero_add, tksT, List.length_map]
  · rw [tts_snoc, if_neg h]
    have : tksT (l ++ [x]) e (tts l ++ [x.t]) = tksT (l ++ [x]) e (tts l) ++ tksT (l ++ [x]) e [x.t] := by simp [tksT]
    rw [this, tksT_other h]
    simp [tksT, h3, i64s]
theorem mem_kvT (m0 : Nat) (l : List Ln) (p : D × D × Nat) : ∀ (ts : List Ti) (n : Nat), p ∈ kvT m0 l ts n ↔ ∃ i t, ts[i]? = some t ∧ p = (sD t, .gsl (i64s (amtsT l t)) (m0 + (n + i)), n + i)
  | [], n => by simp [kvT]
  | s :: r, n => by
    rw [kvT, List.mem_cons, mem_kvT m0 l p r (n + 1)]
    constructor
    · rintro (rfl | ⟨i, t, h1, rfl⟩)
      · exact ⟨0, s, rfl, rfl⟩
      · exact ⟨i + 1, t, by simpa using h1, by rw [show n + (i + 1) = n + 1 + i from by omega]⟩
    · rintro ⟨i, t, h1, rfl⟩
      cases i with
      | zero =>
        simp only [List.getElem?_cons_zero, Option.some.injEq] at h1
        subst h1; exact .inl rfl
      | succ i => exact .inr ⟨i, t, by simpa using h1, by rw [show n + (i + 1) = n + 1 + i from by omega]⟩
theorem kvT_in {m0 : Nat} {l : List Ln} {p : D × D × Nat} {ts : List Ti} (h : p ∈ kvT m0 l ts 0) : ∃ i t, ts[i]? = some t ∧ p = (sD t, .gsl (i64s (amtsT l t)) (m0 + i), i) := by
  obtain ⟨i, t, h1, rfl⟩ := (mem_kvT m0 l p ts 0).1 h
  exact ⟨i, t, h1, by rw [Nat.zero_add]⟩
theorem kvT_eq {m0 : Nat} {l : List Ln} {ts : List Ti} {i : Nat} {t : Ti} (h : ts[i]? = some t) : (sD t, .gsl (i64s (amtsT l t)) (m0 + i), i) ∈ kvT m0 l ts 0 ∧ ∀ q ∈ kvT m0 l ts 0, q.2.2 = i → q = (sD t, .gsl (i64s (amtsT l t)) (m0 + i), i) := by
  refine ⟨(mem_kvT m0 l _ ts 0).2 ⟨i, t, h, by rw [Nat.zero_add]⟩, fun q hq he => ?_⟩
  obtain ⟨j, s, h1, rfl⟩ := kvT_in hq
  simp only at he
  subst he
  rw [h, Option.some.injEq] at h1
  rw [h1]
theorem full_range {vs : List Nat} {n : Nat} (hn : vs.Nodup) (hb : ∀ i ∈ vs, i < n) : vs.length ≤ n := by
  have := List.Nodup.length_le_of_subset hn (l₂ := List.range n) (fun i hi => List.mem_range.2 (hb i hi))
  rwa [List.length_range] at this
theorem sc_kvT {n m m0 clk : Nat} {l : List Ln} : ∀ (ts : List Ti) (k : Nat), m0 + (k + ts.length) ≤ m → oSc n m (.map kSl (kvT m0 l ts k) clk) = true
  | [], k, h => rfl
  | s :: r, k, h => by
    rw [List.length_cons] at h
    have ih := sc_kvT (n := n) (m := m) (m0 := m0) (clk := clk) (l := l) r (k + 1) (by omega)
    have h1 : m0 + k < m := by omega
    simp only [oSc] at ih ⊢
    simp only [kvT, List.all_cons, ih, Bool.and_true, sD, D.sc, scL, scL_i64s, h1, decide_true]
def sLn (s : Slot) (n : Int) : Ln := ⟨s.1, s.2.1, s.2.2, n⟩
theorem sLn_t (s : Slot) (n : Int) : (sLn s n).t = s := rfl
def adL (e : Ent) : List Ln := e.L.flatMap fun x => [sLn (slotK e.day x 0) x.amt, sLn (slotK e.day x 1) x.amt, sLn (slotK e.day x 2) x.amt, sLn (slotK e.day x 3) x.amt]
theorem flat4_len (day : Int) : ∀ L : List Ln, (L.flatMap fun x => [sLn (slotK day x 0) x.amt, sLn (slotK day x 1) x.amt, sLn (slotK day x 2) x.amt, sLn (slotK day x 3) x.amt]).length = 4 * L.length
  | [] => rfl
  | x :: L => by
    rw [List.flatMap_cons, List.length_append, flat4_len day L, List.length_cons]; simp; omega
theorem adL_len (e : Ent) : (adL e).length = 4 * e.L.length := flat4_len _ _
theorem flat4_at (day : Int) : ∀ (L : List Ln) (i k : Nat), i < L.length → k < 4 → (L.flatMap fun x => [sLn (slotK day x 0) x.amt, sLn (slotK day x 1) x.amt, sLn (slotK day x 2) x.amt, sLn (slotK day x 3) x.amt])[4 * i + k]? = some (sLn (slotK day L[i]! k) (L[i]!).amt)
  | [], i, k, hi, _ => by simp at hi
  | x :: L, 0, k, _, hk => by
    have : k = 0 ∨ k = 1 ∨ k = 2 ∨ k = 3 := by omega
    rcases this with rfl | rfl | rfl | rfl <;> rfl
  | x :: L, i + 1, k, hi, hk => by
    have h := flat4_at day L i k (by simpa using hi) hk
    rw [List.flatMap_cons, List.getElem?_append_right (by simp; omega)]
    rw [show 4 * (i + 1) + k - ([sLn (slotK day x 0) x.amt, sLn (slotK day x 1) x.amt, sLn (slotK day x 2) x.amt, sLn (slotK day x 3) x.amt] : List Ln).length = 4 * i + k by simp; omega, h]
    simp
theorem adL_at (e : Ent) {i k : Nat} (hi : i < e.L.length) (hk : k < 4) : (adL e).take (4 * i + k + 1) = (adL e).take (4 * i + k) ++ [sLn (slotK e.day e.L[i]! k) (e.L[i]!).amt] := by
  rw [List.take_add_one, show (adL e)[4 * i + k]? = _ from flat4_at e.day e.L i k hi hk]; rfl
theorem mstamp_app {v z : D} {k : D} {n : Nat} : ∀ {kv : Kv}, (∀ p ∈ kv, p.2.2 ≠ n) → mstamp (kv ++ [(k, z, n)]) n v = kv ++ [(k, v, n)]
  | [], _ => by simp [mstamp]
  | p :: r, h => by
    rw [List.cons_append, mstamp, if_neg (h p (List.mem_cons_self ..)), mstamp_app fun q hq => h q (List.mem_cons_of_mem _ hq)]; rfl
theorem mstamp_find {v : D} {k : D} {p : D × D × Nat} : ∀ {kv : Kv}, mfind kv k = some p → (∀ q ∈ kv, q.2.2 = p.2.2 → q = p) → mstamp kv p.2.2 v = mrepl kv k v
  | [], h, _ => by cases h
  | a :: r, h, hu => by
    rw [mfind, List.find?_cons] at h
    cases hk : keyB k a.1 with
    | true =>
      rw [hk] at h
      simp only [Option.some.injEq] at h
      subst h
      rw [mstamp, if_pos rfl, mrepl, if_pos hk]
    | false =>
      rw [hk] at h
      simp only at h
      have hne : a.2.2 ≠ p.2.2 := fun he => by
        have := hu a (List.mem_cons_self ..) he
        subst this
        have h2 := List.find?_some h
        rw [hk] at h2; cases h2
      rw [mstamp, if_neg hne, mrepl, if_neg (by rw [hk]; simp), mstamp_find (p := p) h fun q hq => hu q (List.mem_cons_of_mem _ hq)]
theorem c78 : cFun E0.P 78 = some ⟨23, [(4, none), (5, none)], .seq (.rg [⟨some 4, none, .mv (.k (.int .i64 0))⟩, ⟨some 5, none, .mv (.k (.bool false))⟩]) (.seq (.rg [⟨some 7, none, .mv (.t 0)⟩, ⟨some 8, none, .mv (.t 1)⟩, ⟨some 9, none, .bin .sub .leaf (.t 7) (.t 8)⟩, ⟨some 6, none, .mv (.t 9)⟩]) (.seq (.seq (.rg [⟨some 10, none, .mv (.t 0)⟩, ⟨some 11, none, .bin .lss .leaf (.t 10) (.k (.int .i64 0))⟩, ⟨some 12, none, .mv (.t 1)⟩, ⟨some 13, none, .bin .lss .leaf (.t 12) (.k (.int .i64 0))⟩, ⟨some 14, none, .bin .neq .leafB (.t 11) (.t 13)⟩, ⟨some 15, none, .mv (.t 14)⟩, ⟨some 16, some (15, true), .mv (.t 6)⟩, ⟨some 17, some (15, true), .bin .lss .leaf (.t 16) (.k (.int .i64 0))⟩, ⟨some 18, some (15, true), .mv (.t 0)⟩, ⟨some 19, some (15, true), .bin .lss .leaf (.t 18) (.k (.int .i64 0))⟩, ⟨some 20, some (15, true), .bin .neq .leafB (.t 17) (.t 19)⟩, ⟨some 21, none, .pick (.t 15) (.t 20) (.k (.bool false))⟩]) (.cond (.t 21) (.seq (.rg [⟨some 4, none, .mv (.k (.int .i64 0))⟩, ⟨some 5, none, .mv (.k (.bool false))⟩]) .ret) .skip)) (.seq (.rg [⟨some 22, none, .mv (.t 6)⟩, ⟨some 4, none, .mv (.t 22)⟩, ⟨some 5, none, .mv (.k (.bool true))⟩]) .ret)))⟩ := by kernel_rfl
theorem c60 : cFun E0.P 60 = some ⟨8, [(2, none), (3, none)], .seq (.rg [⟨some 2, none, .mv (.k (.int .i64 0))⟩, ⟨some 3, none, .mv (.k (.bool false))⟩]) (.seq (.rg [⟨some 4, none, .mv (.t 0)⟩, ⟨some 5, none, .call 78 [.k (.int .i64 0), .t 4]⟩, ⟨some 6, none, .ext 0 (.t 5)⟩, ⟨some 7, none, .ext 1 (.t 5)⟩, ⟨some 2, none, .mv (.t 6)⟩, ⟨some 3, none, .mv (.t 7)⟩]) .ret)⟩ := by kernel_rfl

def negS (n : Int) : D := if n = -9223372036854775808 then .tup [.int .i64 0, .bool false] else .tup [.int .i64 (-n), .bool true]
theorem sub0 (n : Int) (hn : I64 n) : Pure 78 [.int .i64 0, .int .i64 n] (negS n) := by
  intro S tk
  unfold I64 at hn
  by_cases h : n = -9223372036854775808
  · rw [negS, if_pos h]
    have hw : IntKind.wrap .i64 (0 - n) = -9223372036854775808 := by subst h; rfl
    refine ACalls.fgo c78 rfl fun hS => ?_
    repeat' first | with_reducible refine fzD_ite (fun q => ?_) (fun q => ?_) | ((try conv => whnf); first | refine bs_t (decide_eq_true (show n < 0 by omega)) ?_ | refine bs_t (decide_eq_true (show IntKind.wrap .i64 (0 - n) < 0 by rw [hw]; omega)) ?_ | refine bs_f (decide_eq_false (show ¬ (0 : Int) < 0 by omega)) ?_ | refine bs_d (fun q => ?_) (fun q => ?_) | refine bs_n ?_ | refine bs_i (fun q => ?_) (fun q => ?_) | refine eqk rfl ?_ | refine ffin _ rfl rfl hS (Sub.refl _) rfl ⟨?_, rfl, rfl⟩)
    all_goals rfl
  · rw [negS, if_neg h]
    have hw : IntKind.wrap .i64 (0 - n) = -n := by rw [wi64_id (by unfold I64; omega)]; omega
    by_cases h0 : n < 0
    · refine ACalls.fgo c78 rfl fun hS => ?_
      repeat' first | with_reducible refine fzD_ite (fun q => ?_) (fun q => ?_) | ((try conv => whnf); first | refine bs_t (decide_eq_true h0) ?_ | refine bs_f (decide_eq_false (show ¬ IntKind.wrap .i64 (0 - n) < 0 by rw [hw]; omega)) ?_ | refine bs_f (decide_eq_false (show ¬ (0 : Int) < 0 by omega)) ?_ | refine bs_d (fun q => ?_) (fun q => ?_) | refine bs_n ?_ | refine bs_i (fun q => ?_) (fun q => ?_) | refine eqk rfl ?_ | refine ffin _ rfl rfl hS (Sub.refl _) rfl ⟨?_, rfl, rfl⟩)
      all_goals exact congrArg (fun z => D.tup [.int .i64 z, .bool true]) hw
    · refine ACalls.fgo c78 rfl fun hS => ?_
      repeat' first | with_reducible refine fzD_ite (fun q => ?_) (fun q => ?_) | ((try conv => whnf); first | refine bs_f (decide_eq_false h0) ?_ | refine bs_f (decide_eq_false (show ¬ (0 : Int) < 0 by omega)) ?_ | refine bs_d (fun q => ?_) (fun q => ?_) | refine bs_n ?_ | refine bs_i (fun q => ?_) (fun q => ?_) | refine eqk rfl ?_ | refine ffin _ rfl rfl hS (Sub.refl _) rfl ⟨?_, rfl, rfl⟩)
      all_goals exact congrArg (fun z => D.tup [.int .i64 z, .bool true]) hw
theorem Neg (n : Int) (hn : I64 n) : Pure 60 [.int .i64 n] (negS n) := by
  intro S tk
  have h := sub0 n hn
  unfold negS at *
  by_cases h0 : n = -9223372036854775808
  · rw [if_pos h0] at h ⊢
    refine ACalls.fgo c60 rfl fun hS => ?_
    repeat' first | with_reducible refine fzD_ite (fun q => ?_) (fun q => ?_) | ((try conv => whnf); first | refine bs_d (fun q => ?_) (fun q => ?_) | refine bs_n ?_ | refine bs_i (fun q => ?_) (fun q => ?_) | refine ckz (h) ?_ | refine cq (h) ?_ | refine eqk rfl ?_ | refine ffin _ rfl rfl hS (Sub.refl _) rfl ⟨?_, rfl, rfl⟩)
    all_goals rfl
  · rw [if_neg h0] at h ⊢
    refine ACalls.fgo c60 rfl fun hS => ?_
    repeat' first | with_reducible refine fzD_ite (fun q => ?_) (fun q => ?_) | ((try conv => whnf); first | refine bs_d (fun q => ?_) (fun q => ?_) | refine bs_n ?_ | refine bs_i (fun q => ?_) (fun q => ?_) | refine ckz (h) ?_ | refine cq (h) ?_ | refine eqk rfl ?_ | refine ffin _ rfl rfl hS (Sub.refl _) rfl ⟨?_, rfl, rfl⟩)
    all_goals rfl
def vI (n : Int) : D := .int .i64 n
def Nw (f : Slot → Option Int) (o : O) : Prop := ∃ l clk, o = .map kSl (MG.entKv sD l) clk ∧ MG.MapR vI l clk f
theorem kEq : MG.KEq sD := keyB_sD
theorem getI {f : Slot → Option Int} {l : List (MG.Ent Slot)} {clk : Nat} (h : MG.MapR vI l clk f) (s : Slot) : mget (.int .i64 0) (MG.entKv sD l) (sD s) = .int .i64 ((f s).getD 0) ∧ (mfind (MG.entKv sD l) (sD s)).isSome = (f s).isSome := by
  rw [MG.mget_entKv kEq, MG.mfind_some kEq, h.get]
  cases f s <;> exact ⟨rfl, rfl⟩
theorem getE_in {κ : Type} [DecidableEq κ] : ∀ {l : List (MG.Ent κ)} {e : MG.Ent κ}, (l.map (·.1)).Nodup → e ∈ l → MG.getE l e.1 = some e.2.1
  | a :: r, e, hn, he => by
    simp only [List.map_cons, List.nodup_cons] at hn
    rw [MG.getE]
    rcases List.mem_cons.1 he with rfl | he
    · rw [if_pos rfl]
    · rw [if_neg (fun h : e.1 = a.1 => hn.1 (by rw [← h]; exact List.mem_map_of_mem he)), getE_in hn.2 he]
theorem sc_nw {f : Slot → Option Int} {o : O} (h : Nw f o) (n m : Nat) : oSc n m o = true := by
  obtain ⟨l, clk, rfl, h⟩ := h
  simp only [oSc, MG.entKv, List.all_map, List.all_eq_true]
  rintro ⟨s, v, k⟩ hm
  have hg := getE_in h.nd hm
  rw [h.get] at hg
  cases hs : f s with
  | none => rw [hs] at hg; cases hg
  | some x =>
    rw [hs] at hg
    obtain rfl := Option.some.inj hg
    rfl
theorem ad_old (m0 : Nat) (l : List Ln) (x : Ln) (e : TypeId) (h : x.t ∈ tts l) : ∃ i, (tksT l e (tts l))[i]? = some ((i64s (amtsT l x.t)).length, e, 1) ∧
    mget .nilsl (kvT m0 l (tts l) 0) (sD x.t) = .gsl (i64s (amtsT l x.t)) (m0 + i) ∧ mborn (kvT m0 l (tts l) 0) (tts l).length (sD x.t) = i ∧
    ment (kvT m0 l (tts l) 0) (tts l).length (sD x.t) .nilsl = kvT m0 l (tts l) 0 ∧ (∃ p ∈ kvT m0 l (tts l) 0, p.2.2 = i) ∧
    mstamp (kvT m0 l (tts l) 0) i (.gsl (i64s (amtsT l x.t) ++ i64s [x.amt]) (m0 + i)) = kvT m0 (l ++ [x]) (tts (l ++ [x])) 0 ∧
    mclk (kvT m0 l (tts l) 0) (tts l).length (sD x.t) = (tts (l ++ [x])).length ∧
    (tksT l e (tts l)).set i ((i64s (amtsT l x.t) ++ i64s [x.amt]).length, e, 1) = tksT (l ++ [x]) e (tts (l ++ [x])) := by
  obtain ⟨i, h1, h2⟩ := mfind_some' m0 l x.t (tts l) 0 h
  rw [Nat.zero_add] at h2
  have hin := kvT_eq (m0 := m0) (l := l) h1
  refine ⟨i, by rw [tksT, List.getElem?_map, h1, i64s_len]; rfl, by rw [mget, h2], by rw [mborn, h2], by rw [ment, h2], ⟨_, hin.1, rfl⟩, ?_, by rw [mclk, h2, tts_snoc, if_pos h], ?_⟩
  · have h3 := mstamp_find (v := .gsl (i64s (amtsT l x.t) ++ i64s [x.amt]) (m0 + i)) h2 fun q hq he => hin.2 q hq he
    rw [show mstamp (kvT m0 l (tts l) 0) i _ = _ from h3, tts_snoc, if_pos h]
    have := mrepl_kvT m0 l x (tts l) 0 i (nd_tts l) h1
    rwa [Nat.zero_add] at this
  · rw [tts_snoc, if_pos h, ← tksT_set (nd_tts l) h1, List.length_append, i64s_len, i64s_len]; rfl
theorem ad_new (m0 : Nat) (l : List Ln) (x : Ln) (e : TypeId) (h : x.t ∉ tts l) :
    mget .nilsl (kvT m0 l (tts l) 0) (sD x.t) = .nilsl ∧ mborn (kvT m0 l (tts l) 0) (tts l).length (sD x.t) = (tts l).length ∧
    ment (kvT m0 l (tts l) 0) (tts l).length (sD x.t) .nilsl = kvT m0 l (tts l) 0 ++ [(sD x.t, .nilsl, (tts l).length)] ∧
    mstamp (kvT m0 l (tts l) 0 ++ [(sD x.t, .nilsl, (tts l).length)]) (tts l).length (.gsl (i64s [x.amt]) (m0 + (tksT l e (tts l)).length)) = kvT m0 (l ++ [x]) (tts (l ++ [x])) 0 ∧
    mclk (kvT m0 l (tts l) 0) (tts l).length (sD x.t) = (tts (l ++ [x])).length ∧
    tksT l e (tts l) ++ [((i64s [x.amt]).length, e, 1)] = tksT (l ++ [x]) e (tts (l ++ [x])) := by
  have h2 := mfind_none' m0 l x.t (tts l) 0 h
  obtain ⟨k1, k2, k3, k4⟩ := tidy_new m0 l x e h
  refine ⟨k1, by rw [mborn, h2], by rw [ment, h2], ?_, k3, k4⟩
  rw [← k2, mset, h2]
  refine mstamp_app fun p hp => ?_
  obtain ⟨i, t, h3, rfl⟩ := kvT_in hp
  have := (List.getElem?_eq_some_iff.1 h3).1
  simp only; omega
theorem c34 : cFun E0.P 34 = some ⟨98, [(6, none)], .seq (.rg [⟨some 5, none, .box (.t 2) 35⟩, ⟨some 6, none, .mv (.k (.int .i64 0))⟩]) (.seq (.seq (.rd [(⟨some 21, none, .mv (.t 0)⟩, none), (⟨some 22, none, .nilck (.t 21)⟩, none), (⟨some 23, none, .fa 0 (.t 22)⟩, none), (⟨some 24, none, .ld 1 false (.t 23)⟩, none), (⟨some 25, none, .ld 4 true (.t 5)⟩, none), (⟨some 26, none, .call 57 [.t 24, .t 25]⟩, some []), (⟨some 7, none, .mv (.t 26)⟩, none)]) (.seq (.rg [⟨some 27, none, .mv (.t 7)⟩, ⟨some 28, none, .bin .neq .leaf (.t 27) (.k (.int .i64 0))⟩]) (.cond (.t 28) (.seq (.rg [⟨some 29, none, .mv (.t 7)⟩, ⟨some 6, none, .mv (.t 29)⟩]) .ret) .skip))) (.seq (.seq (.rg [⟨some 31, none, .fa 0 (.t 5)⟩, ⟨some 32, none, .ld 1 false (.t 31)⟩, ⟨some 33, none, .call 58 [.t 32]⟩, ⟨some 30, none, .mv (.t 33)⟩, ⟨some 34, none, .ext 0 (.t 30)⟩, ⟨some 35, none, .ext 1 (.t 30)⟩, ⟨some 8, none, .mv (.t 34)⟩, ⟨some 9, none, .mv (.t 35)⟩]) (.seq (.rg [⟨some 36, none, .mv (.t 8)⟩, ⟨some 37, none, .mv (.t 0)⟩, ⟨some 38, none, .nilck (.t 37)⟩, ⟨some 39, none, .fa 3 (.t 38)⟩, ⟨some 40, none, .ld 1 false (.t 39)⟩, ⟨some 41, none, .bin .leq .leaf (.t 36) (.t 40)⟩]) (.cond (.t 41) (.seq (.rg [⟨some 6, none, .mv (.k (.int .i64 210))⟩]) .ret) .skip))) (.seq (.rg [⟨some 42, none, .mkmap (KT.agg [KLf.i .i64, KLf.i .i64, KLf.i .u64])⟩, ⟨some 10, none, .alloc [.nilmap] 118⟩, ⟨none, none, .st 1 (.t 10) (.t 42)⟩]) (.seq (.seq (.rg [⟨some 43, none, .ld 4 true (.t 5)⟩, ⟨some 44, none, .call 59 [.t 43]⟩]) (.block 0 (.rfn (.t 44) [45, 46] (.seq (.rg [⟨some 11, none, .alloc [.int .i64 0, .int .i64 0, .int .u64 0] 82⟩, ⟨none, none, .st 3 (.t 11) (.t 45)⟩]) (.rg [⟨some 12, none, .mv (.t 46)⟩])) (.block 1 (.rg [⟨some 47, none, .ld 1 false (.t 10)⟩, ⟨some 48, none, .ld 3 true (.t 11)⟩, ⟨some 50, none, .mv (.t 12)⟩, ⟨some 51, none, .buildS 1 1 [.int .i64 0] [(0, .t 50)] 2⟩, ⟨some 52, none, .ment (KT.agg [KLf.i .i64, KLf.i .i64, KLf.i .u64]) .nilsl (.t 47) (.t 48)⟩, ⟨some 49, none, .ext 0 (.t 52)⟩, ⟨some 53, none, .app 102 2 1 8 [.int .i64 0] (.t 49) (.t 51)⟩, ⟨some 54, none, .ext 1 (.t 52)⟩, ⟨none, none, .mest (.t 47) (.t 54) (.t 53)⟩])) (Array.mk [45, 46], Code.seq (Code.region 9 (Array.mk [Oper.mk (some 11) (Op.alloc 82) 0 "books.go:67" (Array.mk []) none, Oper.mk none (Op.store 82 (Operand.tmp 11) (Operand.tmp 45)) 0 "books.go:67" (Array.mk [Edge.mk 0 Ground.data, Edge.mk 0 Ground.phase]) none]) false) (Code.region 10 (Array.mk [Oper.mk (some 12) (Op.assign (Operand.tmp 46)) 2 "books.go:67" (Array.mk []) none]) false), Code.block 1 (Code.region 11 (Array.mk [Oper.mk (some 47) (Op.load 118 (Operand.tmp 10)) 118 "books.go:68" (Array.mk []) none, Oper.mk (some 48) (Op.load 82 (Operand.tmp 11)) 82 "books.go:68" (Array.mk []) none, Oper.mk (some 50) (Op.move (Operand.tmp 12)) 2 "books.go:68" (Array.mk []) none, Oper.mk (some 51) (Op.buildSlice 102 1 (Array.mk [(0, Operand.tmp 50)])) 102 "books.go:68" (Array.mk [Edge.mk 2 Ground.data]) none, Oper.mk (some 52) (Op.mapEntry 118 (Operand.tmp 47) (Operand.tmp 48)) 0 "books.go:68" (Array.mk [Edge.mk 0 Ground.data, Edge.mk 1 Ground.data, Edge.mk 0 Ground.phase, Edge.mk 1 Ground.phase, Edge.mk 2 Ground.phase, Edge.mk 3 Ground.phase]) none, Oper.mk (some 49) (Op.extract (Operand.tmp 52) 0) 102 "books.go:68" (Array.mk [Edge.mk 4 Ground.data]) none, Oper.mk (some 53) (Op.call (Call.mk (Callee.builtin Builtin.append) (Array.mk [Operand.tmp 49, Operand.tmp 51]) (Array.mk [102, 102]))) 102 "books.go:68" (Array.mk [Edge.mk 5 Ground.data, Edge.mk 3 Ground.data, Edge.mk 4 Ground.chain]) none, Oper.mk (some 54) (Op.extract (Operand.tmp 52) 1) 3 "books.go:68" (Array.mk [Edge.mk 4 Ground.data]) none, Oper.mk none (Op.entryStore 118 (Operand.tmp 47) (Operand.tmp 54) (Operand.tmp 53)) 0 "books.go:68" (Array.mk [Edge.mk 0 Ground.data, Edge.mk 7 Ground.data, Edge.mk 6 Ground.data, Edge.mk 6 Ground.chain, Edge.mk 0 Ground.phase, Edge.mk 1 Ground.phase, Edge.mk 2 Ground.phase, Edge.mk 3 Ground.phase, Edge.mk 4 Ground.phase, Edge.mk 5 Ground.phase, Edge.mk 6 Ground.phase, Edge.mk 7 Ground.phase]) none]) false))))) (.seq (.seq (.rg [⟨some 55, none, .ld 1 false (.t 10)⟩, ⟨some 56, none, .rngM (.t 55)⟩]) (.block 2 (.loop (.seq (.rg [⟨some 57, none, .nxt (.t 56)⟩, ⟨some 58, none, .ext 0 (.t 57)⟩]) (.seq (.cond (.t 58) .skip (.exit 2)) (.block 3 (.seq (.rg [⟨some 59, none, .ent (.t 56)⟩, ⟨some 60, none, .ext 0 (.t 59)⟩, ⟨some 61, none, .ext 1 (.t 59)⟩, ⟨some 13, none, .alloc [.int .i64 0, .int .i64 0, .int .u64 0] 82⟩, ⟨none, none, .st 3 (.t 13) (.t 60)⟩, ⟨some 14, none, .mv (.t 61)⟩]) (.seq (.rg [⟨some 63, none, .mv (.t 1)⟩, ⟨some 64, none, .ld 3 true (.t 13)⟩, ⟨some 65, none, .mget (KT.agg [KLf.i .i64, KLf.i .i64, KLf.i .u64]) (.int .i64 0) true (.t 63) (.t 64)⟩, ⟨some 62, none, .mv (.t 65)⟩, ⟨some 66, none, .ext 0 (.t 62)⟩, ⟨some 67, none, .ext 1 (.t 62)⟩, ⟨some 15, none, .mv (.t 66)⟩, ⟨some 16, none, .mv (.t 67)⟩]) (.seq (.seq (.rg [⟨some 68, none, .mv (.t 16)⟩, ⟨some 69, none, .un .not (.t 68)⟩]) (.cond (.t 69) (.rd [(⟨some 70, none, .mv (.t 0)⟩, none), (⟨some 71, none, .nilck (.t 70)⟩, none), (⟨some 72, none, .fa 2 (.t 71)⟩, none), (⟨some 73, none, .ld 1 false (.t 72)⟩, none), (⟨some 74, none, .ld 3 true (.t 13)⟩, none), (⟨some 75, none, .mget (KT.agg [KLf.i .i64, KLf.i .i64, KLf.i .u64]) (.int .i64 0) false (.t 73) (.t 74)⟩, none), (⟨some 15, none, .mv (.t 75)⟩, none)]) .skip)) (.seq (.rg [⟨some 77, none, .mv (.t 14)⟩, ⟨some 78, none, .mv (.t 15)⟩, ⟨some 79, none, .buildS 1 1 [.int .i64 0] [(0, .t 78)] 2⟩, ⟨some 80, none, .app 102 2 1 8 [.int .i64 0] (.t 77) (.t 79)⟩, ⟨some 81, none, .call 50 [.t 80]⟩, ⟨some 76, none, .mv (.t 81)⟩, ⟨some 82, none, .ext 0 (.t 76)⟩, ⟨some 83, none, .ext 1 (.t 76)⟩, ⟨some 17, none, .mv (.t 82)⟩, ⟨some 18, none, .mv (.t 83)⟩]) (.seq (.seq (.rg [⟨some 85, none, .mv (.t 17)⟩, ⟨some 86, none, .call 60 [.t 85]⟩, ⟨some 84, none, .mv (.t 86)⟩, ⟨some 87, none, .ext 0 (.t 84)⟩, ⟨some 88, none, .ext 1 (.t 84)⟩, ⟨some 19, none, .mv (.t 87)⟩, ⟨some 20, none, .mv (.t 88)⟩]) (.seq (.rg [⟨some 89, none, .mv (.t 18)⟩, ⟨some 90, none, .un .not (.t 89)⟩, ⟨some 91, none, .mv (.t 90)⟩, ⟨some 92, some (91, false), .mv (.t 20)⟩, ⟨some 93, some (91, false), .un .not (.t 92)⟩, ⟨some 94, none, .pick (.t 91) (.k (.bool true)) (.t 93)⟩]) (.cond (.t 94) (.seq (.rg [⟨some 6, none, .mv (.k (.int .i64 211))⟩]) .ret) .skip))) (.rg [⟨some 95, none, .mv (.t 1)⟩, ⟨some 96, none, .ld 3 true (.t 13)⟩, ⟨some 97, none, .mv (.t 17)⟩, ⟨none, none, .mset (KT.agg [KLf.i .i64, KLf.i .i64, KLf.i .u64]) (.t 95) (.t 96) (.t 97)⟩])))))))))))) (.seq (.rg [⟨some 6, none, .mv (.k (.int .i64 0))⟩]) .ret))))))⟩ := by kernel_rfl

theorem on_cN {ql : AcL} {e : Ent} {n : Int} {o : O} {S : List O} {tk : Tks} {cid mid : Nat} (hn : onN ql e = n) (hch : Ch (look ql) o) (hc : S[cid]? = some (.arr [.map mid])) (hm : S[mid]? = some o) (hok : OkQ ql) (hl : ql.length < 1000000) (hR : e.R) :
    ACalls E0 57 [.po cid 0, e.d] S tk (fun r S' tk' => r = .int .i64 n ∧ S' = S ∧ tk' = tk) := hn ▸ on_c hch hc hm hok hl e hR
section
variable {ql : AcL} {oc om on : O} {cid kid bid mid nid : Nat} {ent : D} {closed : Int} {f g : Slot → Option Int} {S : List O} {tk : Tks}
def moO (m0 : Nat) (l : List Ln) : O := .map kSl (kvT m0 l (tts l) 0) (tts l).length
def m0L (tk : Tks) (l : List Ln) : Nat := tk.length + (tts l).length
theorem slots_at (e : Ent) (hd : 1 ≤ e.day ∧ e.day ≤ 3652059) {n : Nat} {S : List O} {tk : Tks} (hn : S.length = n) :
    ACalls E0 59 [e.d] S tk (fun r S' tk' => r = .fn 77 [.po n 0, .po (n + 1) 0] ∧ S' = S ++ [.arr (entC e), .arr [.int .i64 (ofI e.day)]] ∧ tk' = tk) := by subst hn; exact slots e hd S tk
def adF (n bid nid : Nat) (e : Ent) : List (Nat × D) := [(44, .fn 77 [.po (n + 3) 0, .po (n + 4) 0]), (43, e.d), (0, .po bid 0), (1, .map nid), (5, .po (n + 0) 0), (10, .po (n + 2) 0)]
def adG (S : List O) (tk : Tks) (bid nid : Nat) (e : Ent) (Lp : LI) (l : List Ln) : List O := S ++ [.arr (entC e), moO tk.length l, .arr [.map (S.length + 1)], .arr (entC e), .arr [.int .i64 (ofI e.day)], .lp Lp (adF S.length bid nid e) .ready none]
def adH (tk : Tks) (l : List Ln) : Tks := tk ++ tksT l 2 (tts l)
def wasV (f g : Slot → Option Int) (s : Slot) : Int := (g s).getD ((f s).getD 0)
def newV (L : List Ln) (f g : Slot → Option Int) (s : Slot) : Int := (amtsT L s).sum + wasV f g s
def okS (L : List Ln) (f g : Slot → Option Int) (s : Slot) : Prop := -9223372036854775808 < newV L f g s ∧ newV L f g s < 9223372036854775808
def gV (L : List Ln) (f g : Slot → Option Int) (l : List Slot) : Slot → Option Int := fun s => if s ∈ l then some (newV L f g s) else g s
structure AdS where
  vs : List Nat
  o : O
  tk : Tks
structure AdS.P (s : AdS) (L : List Ln) (ts : List Slot) (f g : Slot → Option Int) : Prop where
  nd : s.vs.Nodup
  lt : ∀ i ∈ s.vs, i < ts.length
  ok : ∀ i ∈ s.vs, okS L f g ts[i]!
  nw : Nw (gV L f g (s.vs.map fun i => ts[i]!)) s.o
  tl : s.tk.length = ts.length
  tt : ∀ (i : Nat) (t : Slot), ts[i]? = some t → i ∉ s.vs → s.tk[i]? = some ((i64s (amtsT L t)).length, 2, 1)
theorem AdS.P.zero {L : List Ln} {ts : List Slot} (hg : Nw g on) (hts : ts = tts L) : AdS.P ⟨[], on, tksT L 2 ts⟩ L ts f g := by
  refine ⟨List.nodup_nil, by simp, by simp, ?_, by simp [tksT], fun i t h _ => ?_⟩
  · have : gV L f g (([] : List Nat).map fun i => ts[i]!) = g := funext fun s => by simp [gV]
    rw [this]; exact hg
  · simp only [tksT, List.getElem?_map, h, Option.map_some, i64s_len]
theorem lt_more {vs : List Nat} {n k : Nat} (hnd : vs.Nodup) (hlt : ∀ i ∈ vs, i < n) (hk : k ∉ vs) (hkn : k < n) : vs.length < n := by
  have h1 : (vs ++ [k]).Nodup := List.nodup_append.2 ⟨hnd, by simp, fun a ha b hb hab => hk (by rw [List.mem_singleton.1 hb] at hab; exact hab ▸ ha)⟩
  have h2 : ∀ x ∈ vs ++ [k], x ∈ List.range n := fun x hx => by
    rw [List.mem_range]
    rcases List.mem_append.1 hx with hx | hx
    · exact hlt x hx
    · rw [List.mem_singleton.1 hx]; exact hkn
  have := List.Nodup.length_le_of_subset h1 h2
  rw [List.length_append, List.length_range, List.length_singleton] at this
  omega
theorem AdS.P.step {L : List Ln} {ts : List Slot} {vs : List Nat} {o : O} {tK : Tks} {k : Nat} {t : Slot} {ml : List (MG.Ent Slot)} {mc : Nat} {v : Nat × TypeId × Nat} (hs : AdS.P ⟨vs, o, tK⟩ L ts f g) (hnd : ts.Nodup) (hk : ts[k]? = some t) (hn : k ∉ vs) (hok : okS L f g t) (hmr : MG.MapR vI ml mc (gV L f g (vs.map fun i => ts[i]!))) :
    AdS.P ⟨vs ++ [k], .map kSl (mset (MG.entKv sD ml) mc (sD t) (vI (newV L f g t))) (mclk (MG.entKv sD ml) mc (sD t)), tK.set k v⟩ L ts f g := by
  have hkl : k < ts.length := (List.getElem?_eq_some_iff.1 hk).1
  have hkt : ts[k]! = t := by rw [getElem!_pos ts k hkl]; exact (List.getElem?_eq_some_iff.1 hk).2
  refine ⟨List.nodup_append.2 ⟨hs.nd, by simp, fun a ha b hb hab => hn ?_⟩, fun i hi => ?_, fun i hi => ?_, ⟨_, _, by rw [MG.mset_entKv kEq, MG.mclk_entKv kEq], ?_⟩, by simp only [List.length_set]; exact hs.tl, fun i u hi hni => ?_⟩
  · rw [List.mem_singleton.1 hb] at hab; exact hab ▸ ha
  · rcases List.mem_append.1 hi with hi | hi
    · exact hs.lt i hi
    · rw [List.mem_singleton.1 hi]; exact hkl
  · rcases List.mem_append.1 hi with hi | hi
    · exact hs.ok i hi
    · rw [List.mem_singleton.1 hi, hkt]; exact hok
  · have h := hmr.set t (newV L f g t)
    have he : (fun j => if j = t then some (newV L f g t) else gV L f g (vs.map fun i => ts[i]!) j) = gV L f g ((vs ++ [k]).map fun i => ts[i]!) := by
      funext j
      have hm : j ∈ ((vs ++ [k]).map fun i => ts[i]!) ↔ (j ∈ vs.map fun i => ts[i]!) ∨ j = t := by
        rw [List.map_append, List.mem_append, List.map_singleton, hkt, List.mem_singleton]
      unfold gV
      by_cases h1 : j = t
      · rw [if_pos h1, if_pos (hm.2 (.inr h1)), h1]
      · rw [if_neg h1]
        by_cases h2 : j ∈ vs.map fun i => ts[i]!
        · rw [if_pos h2, if_pos (hm.2 (.inl h2))]
        · rw [if_neg h2, if_neg (fun h => (hm.1 h).elim h2 h1)]
    rw [he] at h; exact h
  · simp only [List.mem_append, List.mem_singleton, not_or] at hni
    rw [List.getElem?_set_ne (fun h => hni.2 h.symm)]
    exact hs.tt i u hi hni.1
theorem adL_R {e : Ent} (hR : e.R) : ∀ x ∈ adL e, x.R := by
  intro y hy
  obtain ⟨x, hx, hy⟩ := List.mem_flatMap.1 hy
  have h := hR.L x hx
  have hb := of_bd e.day
  simp only [List.mem_cons, List.not_mem_nil, or_false] at hy
  rcases hy with rfl | rfl | rfl | rfl
  · exact ⟨h.acc, by simp [sLn, slotK, U64], by simp [sLn, slotK, U64], h.amt⟩
  · exact ⟨h.acc, by simp [sLn, slotK, U64], h.cus, h.amt⟩
  · exact ⟨h.acc, by simp [sLn, slotK, U64], h.con, h.amt⟩
  · exact ⟨h.acc, by simp [sLn, slotK, U64], by simp only [sLn, slotK, U64]; omega, h.amt⟩
set_option maxHeartbeats 4000000 in
theorem adds (e : Ent) (hR : e.R) (h0 : e.chk = 0) (hon : onN ql e = 0) (hopen : ¬ ofI e.day ≤ closed) (hb : S[bid]? = some (.arr [.po cid 0, ent, .map mid, .int .i64 closed])) (hc : S[cid]? = some (.arr [.map kid])) (hk : S[kid]? = some oc) (hch : Ch (look ql) oc) (hok : OkQ ql) (hql : ql.length < 1000000)
    (hm : S[mid]? = some om) (hf : Nw f om) (hn : S[nid]? = some on) (hg : Nw g on) (hmn : mid ≠ nid) (hfI : ∀ s, I64 ((f s).getD 0)) (hgI : ∀ s, I64 ((g s).getD 0)) :
    ACalls E0 34 [.po bid 0, .map nid, e.d] S tk (fun r S' tk' => ∃ o', (((∀ s ∈ tts (adL e), okS (adL e) f g s) ∧ r = .int .i64 0 ∧ Nw (gV (adL e) f g (tts (adL e))) o') ∨ ((∃ s ∈ tts (adL e), ¬ okS (adL e) f g s) ∧ r = .int .i64 211 ∧ ∃ g', Nw g' o')) ∧ S' = S.set nid o' ∧ tk' = tk) := by
  obtain ⟨c1, c2, c3⟩ := Ent.chk_0 h0
  unfold Ent.hd at c1
  have ho := of_day e.day
  rw [if_pos ⟨c1.1, c1.2.1⟩] at ho
  have hbl : bid < S.length := (List.getElem?_eq_some_iff.1 hb).1
  have hnl : nid < S.length := (List.getElem?_eq_some_iff.1 hn).1
  have hal := adL_len e
  obtain ⟨fl, fc, rfl, hfr⟩ := hf
  refine ACalls.fgoC c34 rfl [9, 10] rfl fun hS => ?_
  repeat' first | with_reducible refine fzD_ite (fun q => ?_) (fun q => ?_) | ((try conv => whnf); first | refine bs_f (decide_eq_false hopen) ?_ | refine bs_d (fun q => ?_) (fun q => ?_) | refine bs_n ?_ | refine bs_i (fun q => ?_) (fun q => ?_) | refine pK_i (ldO_old hb rfl) ?_ | refine ckA rfl rfl (on_cN hon hch (at_old hc) (at_old hk) hok hql hR) ?_ | refine ckz (ho) ?_ | refine cq (ho) ?_ | refine eqk rfl ?_ | refine ffin _ rfl rfl hS (Sub.refl _) rfl ⟨?_, rfl, rfl⟩)
  conv => whnf
  have hsc0 : ∀ (n m : Nat) (l : List Ln), m0L tk l ≤ m → oSc n m (moO tk.length l) = true := fun n m l h => sc_kvT (tts l) 0 (by unfold m0L at h; omega)
  refine fcut (α := Unit) rfl (fun _ => True) (fun _ => [(0, .d (.po bid 0)), (1, .d (.map nid)), (5, .lp 0 0), (10, .lp 2 0)]) (fun _ => S) (fun _ => [.arr (entC e), moO tk.length [], .arr [.map (S.length + 1)]]) (fun _ => []) (fun _ _ => ⟨rfl, hS⟩) ?_ fun _ _ => ?_
  · skip
    repeat' first | with_reducible refine fzD_ite (fun q => ?_) (fun q => ?_) | ((try conv => whnf); first | refine bs_d (fun q => ?_) (fun q => ?_) | refine bs_n ?_ | refine bs_i (fun q => ?_) (fun q => ?_) | refine eqk rfl ?_ | refine ffin _ rfl rfl hS (Sub.refl _) rfl ⟨?_, rfl, rfl⟩)
    conv => whnf
    exact fcnext (α := Unit) () trivial rfl (fstep_sub ⟨Sub.refl _, Sub.refl _, Sub.refl _, Sub.refl _, trivial⟩)
  conv => whnf
  refine fcut (α := Unit) rfl (fun _ => True) (fun _ => [(0, .d (.po bid 0)), (1, .d (.map nid)), (10, .lp 2 0)]) (fun _ => S) (fun _ => [.arr (entC e), moO tk.length (adL e), .arr [.map (S.length + 1)]]) (fun _ => tksT (adL e) 2 (tts (adL e))) (fun _ _ => ⟨rfl, hS⟩) ?_ fun _ _ => ?_
  · skip
    repeat' first | with_reducible refine fzD_ite (fun q => ?_) (fun q => ?_) | ((try conv => whnf); first | refine bs_d (fun q => ?_) (fun q => ?_) | refine bs_n ?_ | refine bs_i (fun q => ?_) (fun q => ?_) | refine ckN (d := .fn 77 [.po (S.length + 3) 0, .po (S.length + 4) 0]) (Jn := [.arr (entC e), .arr [.int .i64 (ofI e.day)]]) rfl rfl (slots_at e ⟨c1.1, c1.2.1⟩ (by simp)) ?_ | refine eqk rfl ?_ | refine ffin _ rfl rfl hS (Sub.refl _) rfl ⟨?_, rfl, rfl⟩)
    conv => whnf
    refine frf rfl rfl rfl rfl fun Lp hR2 => ?_
    have hF : ∀ m : Nat, frSc (S.length + 6) m (adF S.length bid nid e) = true := fun m => by
      simp [adF, frSc, D.sc, scL, scLL_lns, Ent.d]; omega
    have hlenG : ∀ l : List Ln, (adG S tk bid nid e Lp l).length = S.length + 6 := fun l => by simp [adG]
    have hlenH : ∀ l : List Ln, (adH tk l).length = tk.length + (tts l).length := fun l => by simp [adH, tksT]
    have hround : ∀ (l : List Ln) (x : Ln) (J : List O), l.length < 1000000 → AYields E0 (S.length + 5) [sD x.t, .int .i64 x.amt] (adG S tk bid nid e Lp l ++ J) (adH tk l) (fun r S' tk' => r = .bool true ∧ S' = adG S tk bid nid e Lp (l ++ [x]) ++ J ∧ tk' = adH tk (l ++ [x])) := by
      intro l x J hll
      obtain ⟨X, hX⟩ : ∃ X, X = (adG S tk bid nid e Lp l ++ J).set (S.length + 5) (.lp Lp (adF S.length bid nid e) .busy none) := ⟨_, rfl⟩
      have hXl : X.length = (adG S tk bid nid e Lp l ++ J).length := by rw [hX, List.length_set]
      have a1 : X[S.length + 1]? = some (moO tk.length l) := by rw [hX]; simp [adG]
      have a2 : X[S.length + 2]? = some (.arr [.map (S.length + 1)]) := by rw [hX]; simp [adG]
      refine fyieldJ (fr := adF S.length bid nid e) hR2 rfl rfl rfl rfl (by simp [adG]) rfl fun hO => ?_
      repeat' first | with_reducible refine fzD_ite (fun q => ?_) (fun q => ?_) | ((try conv => whnf); first | refine bs_d (fun q => ?_) (fun q => ?_) | refine bs_n ?_ | refine bs_i (fun q => ?_) (fun q => ?_) | refine eqk rfl ?_ | refine ffin _ rfl rfl hS (Sub.refl _) rfl ⟨?_, rfl, rfl⟩)
      refine ⟨rfl, rfl, ?_⟩
      rw [← hX]
      have hlt : S.length + 1 < X.length := by rw [hXl, List.length_append, hlenG]; omega
      have htl : (tts l).length ≤ (tts (l ++ [x])).length := by rw [tts_snoc]; split <;> simp
      have hfin : ∀ (M dO : O) (T' TKx : Tks), T' ++ TKx = adH tk (l ++ [x]) → FRndN E0 (adG S tk bid nid e Lp l ++ J).length (adH tk l).length (S.length + 5) Lp (adF S.length bid nid e) (fun r S' tk' => r = .bool true ∧ S' = adG S tk bid nid e Lp (l ++ [x]) ++ J ∧ tk' = adH tk (l ++ [x])) ((X.set (S.length + 1) M).set (S.length + 1) (moO tk.length (l ++ [x]))) [dO] T' TKx := by
        intro M dO T' TKx hT
        have e1 : ((X.set (S.length + 1) M).set (S.length + 1) (moO tk.length (l ++ [x]))) = X.set (S.length + 1) (moO tk.length (l ++ [x])) := List.set_set ..
        have e2 : (X.set (S.length + 1) (moO tk.length (l ++ [x]))).set (S.length + 5) (.lp Lp (adF S.length bid nid e) .ready none) = adG S tk bid nid e Lp (l ++ [x]) ++ J := by
          rw [hX]; simp [adG, List.set_append_right]
        have e3 : adG S tk bid nid e Lp (l ++ [x]) ++ J = (adG S tk bid nid e Lp l ++ J).set (S.length + 1) (moO tk.length (l ++ [x])) := by
          simp [adG, List.set_append_right]
        have h5 : S.length + 5 < (X.set (S.length + 1) (moO tk.length (l ++ [x]))).length := by rw [List.length_set, hXl, List.length_append, hlenG]; omega
        rw [e1]
        refine FRndN.mk ⟨?_, adG S tk bid nid e Lp (l ++ [x]) ++ J, adH tk (l ++ [x]), ?_, rfl, rfl, rfl⟩
        · rw [List.getElem?_append_left h5, List.getElem?_set_ne (by omega), hX, List.getElem?_set_self (by rw [List.length_append, hlenG]; omega)]
        · rw [List.set_append_left _ _ h5, e2, hT]
          have hosc : OSc (adG S tk bid nid e Lp (l ++ [x]) ++ J).length (adH tk (l ++ [x])).length (adG S tk bid nid e Lp (l ++ [x]) ++ J) := by
            rw [e3]
            refine OSc.set (fun i o ho => osc_mono (by rw [List.length_set]; exact Nat.le_refl _) (by rw [hlenH, hlenH]; omega) (hO i o ho)) (oSc_osc (hsc0 _ _ _ (by rw [hlenH]; exact Nat.le_refl _)))
          have := Shift.drop (E := E0) (n0 := (adG S tk bid nid e Lp l ++ J).length) (m0 := (adH tk l).length) (fr := []) (fr' := []) (S := adG S tk bid nid e Lp (l ++ [x]) ++ J) (J := [dO]) (tk := adH tk (l ++ [x])) (J' := []) trivial (by rw [e3, List.length_set]; exact Nat.le_refl _) (by rw [hlenH, hlenH]; omega) rfl hosc
          rwa [List.append_nil] at this
      by_cases ht : x.t ∈ tts l
      · obtain ⟨i, k1, k2, k3, k4, k5, k6, k7, k8⟩ := ad_old tk.length l x 2 ht
        have hle := amtsT_len l x.t
        have hX1 : (X.set (S.length + 1) (.map kSl (kvT tk.length l (tts l) 0) (tts (l ++ [x])).length)).length = (adG S tk bid nid e Lp l ++ J).length := by rw [List.length_set, hXl]
        have ktk : (adH tk l)[tk.length + i]? = some ((i64s (amtsT l x.t)).length, 2, 1) := by rw [adH, List.getElem?_append_right (by omega), Nat.add_sub_cancel_left]; exact k1
        have kset : (adH tk l).set (tk.length + i) ((i64s (amtsT l x.t) ++ i64s [x.amt]).length, 2, 1) = adH tk (l ++ [x]) := by rw [adH, List.set_append_right _ _ (by omega), Nat.add_sub_cancel_left, k8]; rfl
        repeat' first | with_reducible refine fzD_ite (fun q => ?_) (fun q => ?_) | ((try conv => whnf); first | refine bs_d (fun q => ?_) (fun q => ?_) | refine bs_n ?_ | refine bs_i (fun q => ?_) (fun q => ?_) | refine pK_i (ldO_old a2 rfl) ?_ | refine gk_ment_oldE (kd := sD x.t) hXl rfl rfl a1 rfl rfl k2 k3 k4 k7 ?_ | refine gk_app_oldt (t := tk.length + i) (src := i64s [x.amt]) hX1 rfl rfl rfl ktk (by simp [i64s]) (by rw [i64s_len, i64s_len]; simp [maxLen]; omega) ?_ | refine gk_mest_oldE (n := i) hX1 (by rw [List.length_set]) rfl rfl (List.getElem?_set_self hlt) k5 rfl k6 ?_ | refine eqk rfl ?_ | refine ffin _ rfl rfl hS (Sub.refl _) rfl ⟨?_, rfl, rfl⟩)
        rw [kset]
        conv => whnf
        exact hfin _ _ _ _ (List.append_nil _)
      · obtain ⟨k2, k3, k4, k5, k6, k7⟩ := ad_new tk.length l x 2 ht
        have hX1 : (X.set (S.length + 1) (.map kSl (kvT tk.length l (tts l) 0 ++ [(sD x.t, .nilsl, (tts l).length)]) (tts (l ++ [x])).length)).length = (adG S tk bid nid e Lp l ++ J).length := by rw [List.length_set, hXl]
        have k5' : mstamp (kvT tk.length l (tts l) 0 ++ [(sD x.t, .nilsl, (tts l).length)]) (tts l).length (.gsl (i64s [x.amt]) ((adH tk l).length + 0)) = kvT tk.length (l ++ [x]) (tts (l ++ [x])) 0 := by
          rw [Nat.add_zero, adH, List.length_append]; exact k5
        have k7' : adH tk l ++ [((i64s [x.amt]).length, 2, 1)] = adH tk (l ++ [x]) := by rw [adH, List.append_assoc, k7]; rfl
        repeat' first | with_reducible refine fzD_ite (fun q => ?_) (fun q => ?_) | ((try conv => whnf); first | refine bs_d (fun q => ?_) (fun q => ?_) | refine bs_n ?_ | refine bs_i (fun q => ?_) (fun q => ?_) | refine pK_i (ldO_old a2 rfl) ?_ | refine gk_ment_oldE (kd := sD x.t) hXl rfl rfl a1 rfl rfl k2 k3 k4 k6 ?_ | refine gk_app0 (src := i64s [x.amt]) hX1 rfl (.inl rfl) rfl (by simp [i64s]) (by simp [maxLen, i64s]) ?_ | refine gk_mest_oldE (n := (tts l).length) hX1 rfl rfl rfl (List.getElem?_set_self hlt) ⟨_, List.mem_append_right _ (List.mem_singleton.2 rfl), rfl⟩ rfl k5' ?_ | refine eqk rfl ?_ | refine ffin _ rfl rfl hS (Sub.refl _) rfl ⟨?_, rfl, rfl⟩)
        conv => whnf
        exact hfin _ _ _ _ k7'
    have hall : (adL e).take (4 * e.L.length) = adL e := List.take_of_length_le (by omega)
    refine (slots1 e (by omega) (ce := S.length + 3) (ci := S.length + 4) (yid := S.length + 5) (n := S.length + 6) (fun j => adG S tk bid nid e Lp ((adL e).take j)) (fun j => adH tk ((adL e).take j)) (fun j => at_own (k := 3) rfl rfl) (fun j => at_own (k := 4) rfl rfl) (by omega) (fun j => hlenG _) (fun j => by rw [hlenH, hlenH]; simp [tts]) ?_ ?_).mono ?_
    · intro j
      refine hS.more (by omega) (by rw [hlenH]; omega) ?_
      have h1 := hsc0 (S.length + 6) (adH tk ((adL e).take j)).length ((adL e).take j) (by rw [hlenH]; exact Nat.le_refl _)
      have h2 := hF (adH tk ((adL e).take j)).length
      simp [oScL, h1]
      simp [oSc, scL, D.sc, scLL_lns, entC, h2]
    · intro i k hi hk J
      have h1 := hround ((adL e).take (4 * i + k)) (sLn (slotK e.day e.L[i]! k) (e.L[i]!).amt) J (by rw [List.length_take]; omega)
      rw [← adL_at e hi hk] at h1
      exact h1
    · rintro r S' tk' ⟨rfl, rfl, rfl⟩
      rw [hall]
      refine ⟨S, [.arr (entC e), moO tk.length (adL e), .arr [.map (S.length + 1)], .arr (entC e), .arr [.int .i64 (ofI e.day)]], [], tk, tksT (adL e) 2 (tts (adL e)), .ready, rfl, by simp, rfl, rfl, rfl, rfl, ?_⟩
      conv => whnf
      refine fcnext (α := Unit) () trivial rfl (fstep_drop (J' := [.arr (entC e), moO tk.length (adL e), .arr [.map (S.length + 1)]]) (Jx := [_, _, _]) (TK' := tksT (adL e) 2 (tts (adL e))) (TKx := []) rfl (List.append_nil _).symm ⟨Sub.refl _, Sub.refl _, Sub.refl _, trivial⟩ ?_ ?_)
      · simp [frD, FD.to, frSc, D.sc]; omega
      · have h1 := hsc0 (S.length + 3) (tk.length + (tksT (adL e) 2 (tts (adL e))).length) (adL e) (by simp [tksT, m0L])
        simp [oScL, h1]
        simp [oSc, scL, D.sc, scLL_lns, entC]
  · have hmo : moO tk.length (adL e) = .map kSl (kvT tk.length (adL e) (tts (adL e)) 0) (tts (adL e)).length := rfl
    obtain ⟨L, hL⟩ : ∃ L, L = adL e := ⟨_, rfl⟩
    rw [← hL] at hmo ⊢
    obtain ⟨ts, hts⟩ : ∃ ts, ts = tts L := ⟨_, rfl⟩
    rw [← hts] at hmo ⊢
    rw [hmo]
    obtain ⟨kv, hkv⟩ : ∃ kv, kv = kvT tk.length L ts 0 := ⟨_, rfl⟩
    rw [← hkv]
    have hkin : ∀ p ∈ kv, ∃ i t, ts[i]? = some t ∧ p = (sD t, .gsl (i64s (amtsT L t)) (tk.length + i), i) := fun p hp => kvT_in (hkv ▸ hp)
    have hkv0 : kv = [] ∨ ∃ p ∈ kv, p.2.2 < ts.length := by
      cases hc2 : ts with
      | nil => left; rw [hkv, hc2]; rfl
      | cons t r => right; refine ⟨_, hkv ▸ (kvT_eq (i := 0) (t := t) (by rw [hc2]; rfl)).1, by simp⟩
    have hnd := nd_tts L
    rw [← hts] at hnd
    have hself : S.set nid on = S := by
      refine List.ext_getElem? fun j => ?_
      by_cases hj : nid = j
      · subst hj; rw [List.getElem?_set_self hnl, hn]
      · rw [List.getElem?_set_ne hj]
    have hbn : bid ≠ nid := fun h => by
      subst h; rw [hb] at hn
      obtain ⟨l, c, hl, -⟩ := hg
      rw [hl] at hn; cases hn
    repeat' first | with_reducible refine fzD_ite (fun q => ?_) (fun q => ?_) | ((try conv => whnf); first | refine bs_d (fun q => ?_) (fun q => ?_) | refine bs_n ?_ | refine bs_i (fun q => ?_) (fun q => ?_) | refine gk_rng_own (j := 1) rfl rfl (by rfl) (by rfl) ?_ | refine eqk rfl ?_ | refine ffin _ rfl rfl hS (Sub.refl _) rfl ⟨?_, rfl, rfl⟩)
    conv => whnf
    refine floopS (α := AdS) rfl (fun s => s.P L ts f g) (fun s => ts.length - s.vs.length) (fun s => [(56, .d (.po (S.length + 3) 0)), (0, .d (.po bid 0)), (1, .d (.map nid))])
      (fun s => S.set nid s.o) (fun s => [.arr (entC e), .map kSl kv ts.length, .arr [.map (S.length + 1)], .iter (S.length + 1) ts.length s.vs ts.length]) (fun s => s.tk) (fun s hs => ⟨List.length_set .., hS.set (oSc_osc (sc_nw hs.nw _ _))⟩) ⟨[], on, tksT L 2 ts⟩ (AdS.P.zero hg hts) hself.symm (fstep_sub ⟨Sub.refl _, Sub.refl _, Sub.refl _, trivial⟩) ?_
    rintro ⟨vs, o, tK⟩ hs
    obtain ⟨ml, mc, hoe, hmr⟩ := hs.nw
    simp only at hoe hmr
    subst hoe
    have hso : (S.set nid (.map kSl (MG.entKv sD ml) mc)).length = S.length := List.length_set ..
    have hn' : (S.set nid (.map kSl (MG.entKv sD ml) mc))[nid]? = some (.map kSl (MG.entKv sD ml) mc) := List.getElem?_set_self hnl
    have hb' : (S.set nid (.map kSl (MG.entKv sD ml) mc))[bid]? = some (.arr [.po cid 0, ent, .map mid, .int .i64 closed]) := by rw [List.getElem?_set_ne (Ne.symm hbn)]; exact hb
    have hm' : (S.set nid (.map kSl (MG.entKv sD ml) mc))[mid]? = some (.map kSl (MG.entKv sD fl) fc) := by rw [List.getElem?_set_ne (Ne.symm hmn)]; exact hm
    have hoscS : OSc S.length tk.length (S.set nid (.map kSl (MG.entKv sD ml) mc)) := hS.set (oSc_osc (sc_nw hs.nw _ _))
    have hJsc : ∀ vs' (tK' : Tks), tK'.length = ts.length → oScL (S.length + 4) (tk.length + tK'.length) [.arr (entC e), .map kSl kv ts.length, .arr [.map (S.length + 1)], .iter (S.length + 1) ts.length vs' ts.length] = true := fun vs' tK' hl => by
      have h1 := hsc0 (S.length + 4) (tk.length + tK'.length) L (by unfold m0L; rw [hl, hts]; exact Nat.le_refl _)
      rw [hmo, ← hkv] at h1
      simp only [oScL, h1]
      simp [oSc, scL, D.sc, scLL_lns, entC]
    have hfsc : ∀ m : Nat, frSc (S.length + 4) m (frD S.length [(56, .d (.po (S.length + 3) 0)), (0, .d (.po bid 0)), (1, .d (.map nid))]) = true := fun m => by
      simp [frD, FD.to, frSc, D.sc]; omega
    conv => whnf
    repeat' first | with_reducible refine fzD_ite (fun q => ?_) (fun q => ?_) | ((try conv => whnf); first | refine bs_d (fun q => ?_) (fun q => ?_) | refine bs_n ?_ | refine bs_i (fun q => ?_) (fun q => ?_) | (refine gk_nxt (it := 3) hso rfl (by rfl) (by rfl) (at_own (k := 1) hso (by rfl)) (.inr hkv0) ?_ ?_; (rintro p hp hns; obtain ⟨k, t, hkt, rfl⟩ := hkin p hp; skip); rotate_left; intro hall; rotate_left) | refine eqk rfl ?_ | refine ffin _ rfl rfl hS (Sub.refl _) rfl ⟨?_, rfl, rfl⟩)
    · have hkl : k < ts.length := (List.getElem?_eq_some_iff.1 hkt).1
      have hkt' : ts[k]! = t := by rw [getElem!_pos ts k hkl]; exact (List.getElem?_eq_some_iff.1 hkt).2
      have hkd : ∀ q ∈ kv, q.2.2 = k → q = (sD t, .gsl (i64s (amtsT L t)) (tk.length + k), k) := fun q hq hqk => (kvT_eq hkt).2 q (hkv ▸ hq) hqk
      have hns' : k ∉ vs := hns
      have hTk := hs.tt k t hkt hns'
      simp only at hTk
      have htm : t ∈ ts := List.mem_of_getElem? hkt
      have hvl : vs.length < ts.length := lt_more hs.nd hs.lt hns' hkl
      have htv : t ∉ vs.map (fun i => ts[i]!) := fun h => by
        obtain ⟨j, hj, hjt⟩ := List.mem_map.1 h
        have hjl := hs.lt j hj
        have : j = k := (List.getElem?_inj hjl hnd).1 (by rw [hkt, List.getElem?_eq_getElem hjl, ← hjt, getElem!_pos ts j hjl])
        exact hns' (this ▸ hj)
      have hgt : gV L f g (vs.map fun i => ts[i]!) t = g t := if_neg htv
      obtain ⟨q1, q2⟩ := getI hmr t
      rw [hgt] at q1 q2
      obtain ⟨p1, -⟩ := getI hfr t
      have hall4 : (amtsT L t).length ≤ 256 := by have := amtsT_len L t; rw [hL] at this ⊢; omega
      have hwI : I64 (wasV f g t) := by
        unfold wasV
        cases hgc : g t with
        | none => exact hfI t
        | some v => have := hgI t; rw [hgc] at this; exact this
      have happ : i64s (amtsT L t) ++ [[.int .i64 (wasV f g t)]] = i64s (amtsT L t ++ [wasV f g t]) := by simp [i64s]
      have hsumn : (amtsT L t ++ [wasV f g t]).sum = newV L f g t := by rw [List.sum_append]; simp [newV]
      have hsn : ∃ n0 b1 n1 b2, Pure 50 [.sl (i64s (amtsT L t ++ [wasV f g t]))] (.tup [.int .i64 n0, .bool b1]) ∧ Pure 60 [.int .i64 n0] (.tup [.int .i64 n1, .bool b2]) ∧ ((n0 = newV L f g t ∧ b1 = true ∧ b2 = true ∧ okS L f g t) ∨ ((b1 = false ∨ b2 = false) ∧ ¬ okS L f g t)) := by
        have hsum := Sum (amtsT L t ++ [wasV f g t]) (by simp; omega) (fun n hn => by
          rcases List.mem_append.1 hn with hn | hn
          · exact amtsT_R (l := L) (by rw [hL]; exact adL_R hR) t n hn
          · rw [List.mem_singleton.1 hn]; exact hwI)
        by_cases hfit : -9223372036854775808 ≤ newV L f g t ∧ newV L f g t < 9223372036854775808
        · rw [sumS, hsumn, if_pos hfit] at hsum
          have hneg := Neg (newV L f g t) hfit
          by_cases hmin : newV L f g t = -9223372036854775808
          · rw [negS, if_pos hmin] at hneg
            exact ⟨_, _, _, _, hsum, hneg, .inr ⟨.inr rfl, fun h => by unfold okS at h; omega⟩⟩
          · rw [negS, if_neg hmin] at hneg
            exact ⟨_, _, _, _, hsum, hneg, .inl ⟨rfl, rfl, rfl, by unfold okS; omega⟩⟩
        · rw [sumS, hsumn, if_neg hfit] at hsum
          have hneg := Neg 0 (by unfold I64; omega)
          rw [negS, if_neg (by omega)] at hneg
          exact ⟨_, _, _, _, hsum, hneg, .inr ⟨.inl rfl, fun h => by unfold okS at h; omega⟩⟩
      obtain ⟨n0, b1, n1, b2, hsum, hneg, hcase⟩ := hsn
      rw [← happ] at hsum
      cases hgc : g t with
      | none =>
        rw [hgc] at q1 q2
        have hmg : (if true = true then D.tup [mget (.int .i64 0) (MG.entKv sD ml) (sD t), .bool (mfind (MG.entKv sD ml) (sD t)).isSome] else mget (.int .i64 0) (MG.entKv sD ml) (sD t)) = .tup [.int .i64 0, .bool false] := by rw [if_pos rfl, q1, q2]; rfl
        have hwv : (f t).getD 0 = wasV f g t := by unfold wasV; rw [hgc]; rfl
        rw [hwv] at p1
        rcases hcase with ⟨rfl, rfl, rfl, hokt⟩ | ⟨hbad, hnok⟩
        · skip
          repeat' first | with_reducible refine fzD_ite (fun q => ?_) (fun q => ?_) | ((try conv => whnf); first | refine bs_d (fun q => ?_) (fun q => ?_) | refine bs_n ?_ | refine bs_i (fun q => ?_) (fun q => ?_) | refine pK_i (entD_own (k := 3) hso (by rfl) (at_own (k := 1) hso (by rfl)) hp hkd) ?_ | refine pK_i ((mgD_old (ok := true) hn' rfl).trans (congrArg some hmg)) ?_ | refine pK_i (ldO_old hb' rfl) ?_ | refine pK_i ((mgD_old (ok := false) hm' rfl).trans (congrArg some p1)) ?_ | refine gk_app (t := k) (src := [[.int .i64 (wasV f g t)]]) hso rfl (by rfl) (by rfl) hTk (by simp) (by rw [i64s_len]; simp [maxLen]; omega) ?_ | refine ckS hso rfl hsum (.cons (Sub.rd rfl) .nil) ?_ | refine ckS hso rfl hneg (SubL.refl _) ?_ | refine gk_mset_old hso rfl rfl hn' rfl ?_ | refine eqk rfl ?_ | refine ffin _ rfl rfl hS (Sub.refl _) rfl ⟨?_, rfl, rfl⟩)
          conv => whnf
          exact fnextS (α := AdS) ⟨vs ++ [k], .map kSl (mset (MG.entKv sD ml) mc (sD t) (vI (newV L f g t))) (mclk (MG.entKv sD ml) mc (sD t)), tK.set k ((i64s (amtsT L t) ++ [[D.int .i64 (wasV f g t)]]).length, 2, 1)⟩ (hs.step hnd hkt hns' hokt hmr) (by simp only [List.length_append, List.length_singleton]; omega) (by simp only [List.set_set]; rfl) (fstep_drop (J' := [.arr (entC e), .map kSl kv ts.length, .arr [.map (S.length + 1)], .iter (S.length + 1) ts.length (vs ++ [k]) ts.length]) (Jx := [_]) (TK' := tK.set k _) (TKx := []) rfl (List.append_nil _).symm ⟨Sub.refl _, Sub.refl _, Sub.refl _, trivial⟩ (hfsc _) (hJsc _ _ (by rw [List.length_set]; exact hs.tl)))
        · cases b1 with
          | false =>
            repeat' first | with_reducible refine fzD_ite (fun q => ?_) (fun q => ?_) | ((try conv => whnf); first | refine bs_d (fun q => ?_) (fun q => ?_) | refine bs_n ?_ | refine bs_i (fun q => ?_) (fun q => ?_) | refine pK_i (entD_own (k := 3) hso (by rfl) (at_own (k := 1) hso (by rfl)) hp hkd) ?_ | refine pK_i ((mgD_old (ok := true) hn' rfl).trans (congrArg some hmg)) ?_ | refine pK_i (ldO_old hb' rfl) ?_ | refine pK_i ((mgD_old (ok := false) hm' rfl).trans (congrArg some p1)) ?_ | refine gk_app (t := k) (src := [[.int .i64 (wasV f g t)]]) hso rfl (by rfl) (by rfl) hTk (by simp) (by rw [i64s_len]; simp [maxLen]; omega) ?_ | refine ckS hso rfl hsum (.cons (Sub.rd rfl) .nil) ?_ | refine ckS hso rfl hneg (SubL.refl _) ?_ | refine ffin _ hso rfl hoscS (Sub.refl _) rfl ⟨_, .inr ⟨⟨t, htm, hnok⟩, ?_, _, hs.nw⟩, rfl, rfl⟩ | refine eqk rfl ?_ | refine ffin _ rfl rfl hS (Sub.refl _) rfl ⟨?_, rfl, rfl⟩)
            all_goals rfl
          | true =>
            obtain rfl : b2 = false := by simpa using hbad
            repeat' first | with_reducible refine fzD_ite (fun q => ?_) (fun q => ?_) | ((try conv => whnf); first | refine bs_d (fun q => ?_) (fun q => ?_) | refine bs_n ?_ | refine bs_i (fun q => ?_) (fun q => ?_) | refine pK_i (entD_own (k := 3) hso (by rfl) (at_own (k := 1) hso (by rfl)) hp hkd) ?_ | refine pK_i ((mgD_old (ok := true) hn' rfl).trans (congrArg some hmg)) ?_ | refine pK_i (ldO_old hb' rfl) ?_ | refine pK_i ((mgD_old (ok := false) hm' rfl).trans (congrArg some p1)) ?_ | refine gk_app (t := k) (src := [[.int .i64 (wasV f g t)]]) hso rfl (by rfl) (by rfl) hTk (by simp) (by rw [i64s_len]; simp [maxLen]; omega) ?_ | refine ckS hso rfl hsum (.cons (Sub.rd rfl) .nil) ?_ | refine ckS hso rfl hneg (SubL.refl _) ?_ | refine ffin _ hso rfl hoscS (Sub.refl _) rfl ⟨_, .inr ⟨⟨t, htm, hnok⟩, ?_, _, hs.nw⟩, rfl, rfl⟩ | refine eqk rfl ?_ | refine ffin _ rfl rfl hS (Sub.refl _) rfl ⟨?_, rfl, rfl⟩)
            all_goals rfl
      | some v =>
        rw [hgc] at q1 q2
        have hwv : v = wasV f g t := by unfold wasV; rw [hgc]; rfl
        have hmg : (if true = true then D.tup [mget (.int .i64 0) (MG.entKv sD ml) (sD t), .bool (mfind (MG.entKv sD ml) (sD t)).isSome] else mget (.int .i64 0) (MG.entKv sD ml) (sD t)) = .tup [.int .i64 (wasV f g t), .bool true] := by rw [if_pos rfl, q1, q2, ← hwv]; rfl
        rcases hcase with ⟨rfl, rfl, rfl, hokt⟩ | ⟨hbad, hnok⟩
        · skip
          repeat' first | with_reducible refine fzD_ite (fun q => ?_) (fun q => ?_) | ((try conv => whnf); first | refine bs_d (fun q => ?_) (fun q => ?_) | refine bs_n ?_ | refine bs_i (fun q => ?_) (fun q => ?_) | refine pK_i (entD_own (k := 3) hso (by rfl) (at_own (k := 1) hso (by rfl)) hp hkd) ?_ | refine pK_i ((mgD_old (ok := true) hn' rfl).trans (congrArg some hmg)) ?_ | refine gk_app (t := k) (src := [[.int .i64 (wasV f g t)]]) hso rfl (by rfl) (by rfl) hTk (by simp) (by rw [i64s_len]; simp [maxLen]; omega) ?_ | refine ckS hso rfl hsum (.cons (Sub.rd rfl) .nil) ?_ | refine ckS hso rfl hneg (SubL.refl _) ?_ | refine gk_mset_old hso rfl rfl hn' rfl ?_ | refine eqk rfl ?_ | refine ffin _ rfl rfl hS (Sub.refl _) rfl ⟨?_, rfl, rfl⟩)
          conv => whnf
          exact fnextS (α := AdS) ⟨vs ++ [k], .map kSl (mset (MG.entKv sD ml) mc (sD t) (vI (newV L f g t))) (mclk (MG.entKv sD ml) mc (sD t)), tK.set k ((i64s (amtsT L t) ++ [[D.int .i64 (wasV f g t)]]).length, 2, 1)⟩ (hs.step hnd hkt hns' hokt hmr) (by simp only [List.length_append, List.length_singleton]; omega) (by simp only [List.set_set]; rfl) (fstep_drop (J' := [.arr (entC e), .map kSl kv ts.length, .arr [.map (S.length + 1)], .iter (S.length + 1) ts.length (vs ++ [k]) ts.length]) (Jx := [_]) (TK' := tK.set k _) (TKx := []) rfl (List.append_nil _).symm ⟨Sub.refl _, Sub.refl _, Sub.refl _, trivial⟩ (hfsc _) (hJsc _ _ (by rw [List.length_set]; exact hs.tl)))
        · cases b1 with
          | false =>
            repeat' first | with_reducible refine fzD_ite (fun q => ?_) (fun q => ?_) | ((try conv => whnf); first | refine bs_d (fun q => ?_) (fun q => ?_) | refine bs_n ?_ | refine bs_i (fun q => ?_) (fun q => ?_) | refine pK_i (entD_own (k := 3) hso (by rfl) (at_own (k := 1) hso (by rfl)) hp hkd) ?_ | refine pK_i ((mgD_old (ok := true) hn' rfl).trans (congrArg some hmg)) ?_ | refine gk_app (t := k) (src := [[.int .i64 (wasV f g t)]]) hso rfl (by rfl) (by rfl) hTk (by simp) (by rw [i64s_len]; simp [maxLen]; omega) ?_ | refine ckS hso rfl hsum (.cons (Sub.rd rfl) .nil) ?_ | refine ckS hso rfl hneg (SubL.refl _) ?_ | refine ffin _ hso rfl hoscS (Sub.refl _) rfl ⟨_, .inr ⟨⟨t, htm, hnok⟩, ?_, _, hs.nw⟩, rfl, rfl⟩ | refine eqk rfl ?_ | refine ffin _ rfl rfl hS (Sub.refl _) rfl ⟨?_, rfl, rfl⟩)
            all_goals rfl
          | true =>
            obtain rfl : b2 = false := by simpa using hbad
            repeat' first | with_reducible refine fzD_ite (fun q => ?_) (fun q => ?_) | ((try conv => whnf); first | refine bs_d (fun q => ?_) (fun q => ?_) | refine bs_n ?_ | refine bs_i (fun q => ?_) (fun q => ?_) | refine pK_i (entD_own (k := 3) hso (by rfl) (at_own (k := 1) hso (by rfl)) hp hkd) ?_ | refine pK_i ((mgD_old (ok := true) hn' rfl).trans (congrArg some hmg)) ?_ | refine gk_app (t := k) (src := [[.int .i64 (wasV f g t)]]) hso rfl (by rfl) (by rfl) hTk (by simp) (by rw [i64s_len]; simp [maxLen]; omega) ?_ | refine ckS hso rfl hsum (.cons (Sub.rd rfl) .nil) ?_ | refine ckS hso rfl hneg (SubL.refl _) ?_ | refine ffin _ hso rfl hoscS (Sub.refl _) rfl ⟨_, .inr ⟨⟨t, htm, hnok⟩, ?_, _, hs.nw⟩, rfl, rfl⟩ | refine eqk rfl ?_ | refine ffin _ rfl rfl hS (Sub.refl _) rfl ⟨?_, rfl, rfl⟩)
            all_goals rfl
    · have hall2 : ∀ i, i < ts.length → i ∈ vs := fun i hi => by
        have := kvT_eq (m0 := tk.length) (l := L) (ts := ts) (i := i) (t := ts[i]) (List.getElem?_eq_getElem hi)
        exact hall _ (hkv ▸ this.1) hi
      have hgA : gV L f g (vs.map fun i => ts[i]!) = gV L f g ts := by
        funext s
        have hm : (s ∈ vs.map fun i => ts[i]!) ↔ s ∈ ts := by
          rw [List.mem_map]
          constructor
          · rintro ⟨i, hi, rfl⟩
            exact mem_at (hs.lt i hi)
          · intro h
            obtain ⟨i, hi, rfl⟩ := List.mem_iff_getElem.1 h
            exact ⟨i, hall2 i hi, getElem!_pos ts i hi⟩
        unfold gV
        by_cases h : s ∈ ts
        · rw [if_pos h, if_pos (hm.2 h)]
        · rw [if_neg h, if_neg (fun h2 => h (hm.1 h2))]
      have hokA : ∀ s ∈ ts, okS L f g s := fun s h => by
        obtain ⟨i, hi, rfl⟩ := List.mem_iff_getElem.1 h
        have := hs.ok i (hall2 i hi)
        rwa [getElem!_pos ts i hi] at this
      have hnwA := hs.nw
      simp only at hnwA
      rw [hgA] at hnwA
      repeat' first | with_reducible refine fzD_ite (fun q => ?_) (fun q => ?_) | ((try conv => whnf); first | refine bs_d (fun q => ?_) (fun q => ?_) | refine bs_n ?_ | refine bs_i (fun q => ?_) (fun q => ?_) | refine ffin _ hso rfl hoscS (Sub.refl _) rfl ⟨_, .inl ⟨hokA, ?_, hnwA⟩, rfl, rfl⟩ | refine eqk rfl ?_ | refine ffin _ rfl rfl hS (Sub.refl _) rfl ⟨?_, rfl, rfl⟩)
      all_goals rfl
end
end Go.KL.YtkojphmejddhiaaGreatDoor.J
