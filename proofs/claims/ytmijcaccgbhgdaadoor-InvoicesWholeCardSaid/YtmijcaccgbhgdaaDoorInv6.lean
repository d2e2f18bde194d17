/- the reference of package invoices: how old what is open is -/
import Derived.Test.YtmijcaccgbhgdaaDoorInv5
set_option linter.unusedVariables false
set_option linter.unusedSimpArgs false
set_option maxRecDepth 4000
set_option maxHeartbeats 4000000
namespace Go.KL.YtmijcaccgbhgdaaDoor
open Go Go.KL Go.RowKit Go.Proofs

/-- what is open of an age, one by one -/
def sel (day : Int) : List Iv → Int → List Int
  | [], _ => []
  | x :: r, a => (if x.age day = a then [x.op] else []) ++ sel day r a
theorem sel_sum (day : Int) : ∀ (l : List Iv) (a : Int), (sel day l a).sum = agesum day l a
  | [], _ => rfl
  | x :: r, a => by
    simp only [sel, agesum, List.sum_append, sel_sum day r a]
    split <;> simp
theorem sel_len (day : Int) : ∀ (l : List Iv) (a : Int), (sel day l a).length ≤ l.length
  | [], _ => Nat.le_refl _
  | x :: r, a => by
    have := sel_len day r a
    simp only [sel, List.length_append, List.length_cons]
    split <;> simp <;> omega
theorem sel_R (day : Int) : ∀ (l : List Iv) (a : Int), ∀ n ∈ sel day l a, I64 n
  | [], _, n, h => by simp [sel] at h
  | x :: r, a, n, h => by
    simp only [sel, List.mem_append] at h
    rcases h with h | h
    · split at h
      · rw [List.mem_singleton.1 h]; have := op_bd x; unfold I64; omega
      · simp at h
    · exact sel_R day r a n h
theorem sel_app (day : Int) (p q : List Iv) (a : Int) : sel day (p ++ q) a = sel day p a ++ sel day q a := by
  induction p with
  | nil => simp [sel]
  | cons x r ih => simp only [List.cons_append, sel, ih, List.append_assoc]
theorem sel_take {day : Int} {l : List Iv} {i : Nat} {x : Iv} (h : l[i]? = some x) (a : Int) : sel day (l.take (i + 1)) a = sel day (l.take i) a ++ (if x.age day = a then [x.op] else []) := by
  rw [List.take_add_one, h, Option.toList_some, sel_app]
  simp [sel]
theorem i64s_app (p q : List Int) : i64s (p ++ q) = i64s p ++ i64s q := List.map_append ..

def z5 : O := .arr [.int .i64 0, .int .i64 0, .int .i64 0, .int .i64 0, .int .i64 0]
def sums (day : Int) (l : List Iv) (a : Nat) : O := .arr [.int .i64 (if 0 < a then agesum day l 0 else 0), .int .i64 (if 1 < a then agesum day l 1 else 0), .int .i64 (if 2 < a then agesum day l 2 else 0), .int .i64 (if 3 < a then agesum day l 3 else 0), .int .i64 (if 4 < a then agesum day l 4 else 0)]

theorem refAges (l : List Iv) (hl : l.length < 1073741824) (hx : ∀ x ∈ l, x.R) (day : Int) (hd : I64 day) : Pure 11 [.sl (ivs l), .int .i64 day] (agesD day l (agesE day l)) := by
  intro S tk
  refine ACalls.withSc fun hsc => ?_
  have hsc' : scLL S.length tk.length (ivs l) = true := by simp only [scL, D.sc, Bool.and_true] at hsc; exact hsc
  have hw := day' day
  by_cases h1 : 1 ≤ day ∧ day ≤ 3652059
  · rw [decide_eq_true h1] at hw
    refine ACalls.fgo c11 rfl fun hS => ?_
    repeat' first | with_reducible refine fzD_ite (fun q => ?_) (fun q => ?_) | ((try conv => whnf); first
      | refine bs_d (fun q => ?_) (fun q => ?_)
      | refine bs_n ?_
      | refine bs_i (fun q => ?_) (fun q => ?_)
      | refine ck rfl rfl (hw) ?_
      | refine cq (hw) ?_
      | refine ffin _ rfl rfl hS (Sub.refl _) rfl ⟨?_, rfl, rfl⟩)
    refine floop (α := Nat) rfl rfl hS (fun i => i ≤ l.length ∧ ∀ x ∈ l.take i, x.ok) (fun i => l.length - i) (fun i => [(7, .d (.int .i64 i)), (0, .d (.sl (ivs l))), (1, .d (.int .i64 day)), (4, .lp 0 0), (6, .lp 1 0)]) (fun _ => [z5, z5]) (fun _ => []) 0 ⟨by omega, by simp⟩ (fstep_sub ⟨Sub.refl _, Sub.refl _, Sub.refl _, Sub.refl _, Sub.refl _, trivial⟩) ?_
    rintro i ⟨hi, hok⟩
    refine bs_d (fun (h : (i : Int) < ((ivs l).length : Int)) => ?_) (fun (h : ¬ (i : Int) < ((ivs l).length : Int)) => ?_)
    · rw [ivs_len] at h
      have hi2 : i < l.length := by omega
      have hxi : l[i]? = some l[i] := List.getElem?_eq_getElem hi2
      have hxR := hx l[i] (List.getElem_mem hi2)
      have hxl : l[i] ∈ l := List.getElem_mem hi2
      generalize l[i] = x at hxi hxR hxl
      have hc := refCheck x hxR
      have ei : IntKind.wrap .i64 ((i : Int) + 1) = ((i + 1 : Nat) : Int) := by rw [wi64]; omega
      refine pK_i (iaD_ivs (x := x) (by omega) (by simpa using hxi)) ?_
      by_cases hxo : x.ok
      · rw [if_pos hxo] at hc
        repeat' first | with_reducible refine fzD_ite (fun q => ?_) (fun q => ?_) | ((try conv => whnf); first
          | refine bs_d (fun q => ?_) (fun q => ?_)
          | refine bs_n ?_
          | refine bs_i (fun q => ?_) (fun q => ?_)
          | refine ck rfl rfl (hc) ?_
          | refine cq (hc) ?_
          | refine fnext (i + 1) ?_ (by omega) (fstep_sub ⟨Sub.int ei, Sub.refl _, Sub.refl _, Sub.refl _, Sub.refl _, trivial⟩)
          | refine ffin _ rfl rfl hS (Sub.refl _) rfl ⟨?_, rfl, rfl⟩)
        refine ⟨hi2, fun y hy => ?_⟩
        rw [List.take_add_one, hxi, Option.toList_some, List.mem_append] at hy
        rcases hy with hy | hy
        · exact hok y hy
        · rw [List.mem_singleton.1 hy]; exact hxo
      · rw [if_neg hxo] at hc
        repeat' first | with_reducible refine fzD_ite (fun q => ?_) (fun q => ?_) | ((try conv => whnf); first
          | refine bs_d (fun q => ?_) (fun q => ?_)
          | refine bs_n ?_
          | refine bs_i (fun q => ?_) (fun q => ?_)
          | refine ck rfl rfl (hc) ?_
          | refine cq (hc) ?_
          | refine ffin _ rfl rfl hS (Sub.refl _) rfl ⟨?_, rfl, rfl⟩)
        show D.tup _ = _
        rw [agesE, if_neg (fun h => hxo (h.2.2 x hxl))]
        rfl
    · rw [ivs_len] at h
      have hi2 : i = l.length := by omega
      subst hi2
      rw [List.take_length] at hok
      refine floop (α := Nat) rfl rfl hS (fun a => a ≤ 5 ∧ ∀ k : Nat, k < a → agesum day l k < 9223372036854775808) (fun a => 5 - a) (fun a => [(9, .d (.int .i64 a)), (0, .d (.sl (ivs l))), (1, .d (.int .i64 day)), (4, .lp 0 0), (6, .lp 1 0), (8, .lp 2 0)]) (fun a => [z5, z5, sums day l a]) (fun _ => []) 0 ⟨by omega, by simp⟩ (fstep_sub ⟨Sub.refl _, Sub.refl _, Sub.refl _, Sub.refl _, Sub.refl _, Sub.refl _, trivial⟩) ?_
      have hfr : ∀ a : Nat, frSc (S.length + 3) (tk.length + 0) (frD S.length [(9, .d (.int .i64 a)), (0, .d (.sl (ivs l))), (1, .d (.int .i64 day)), (4, .lp 0 0), (6, .lp 1 0), (8, .lp 2 0)]) = true := fun a => by
        simp only [frD, FD.to, frSc, D.sc, Bool.true_and, Bool.and_true, Bool.and_eq_true, decide_eq_true_eq]
        exact ⟨scLL_mono (by omega) (by omega) hsc', by omega, by omega, by omega⟩
      rintro a ⟨ha, hfit⟩
      have : a = 0 ∨ a = 1 ∨ a = 2 ∨ a = 3 ∨ a = 4 ∨ a = 5 := by omega
      rcases this with rfl | rfl | rfl | rfl | rfl | rfl
      · have hsum := refSum (sel day l 0) (by have := sel_len day l 0; omega) (sel_R day l 0)
        rw [sumS, sel_sum] at hsum
        have hnn := agesum_nn day l 0
        refine floop (α := Nat) rfl rfl hS (fun i => i ≤ l.length) (fun i => l.length - i) (fun i => [(11, .d (.int .i64 i)), (0, .d (.sl (ivs l))), (1, .d (.int .i64 day)), (10, .d (.gsl (i64s (sel day (l.take i) 0)) (tk.length + 0))), (9, .d (.int .i64 ((0 : Nat) : Int))), (4, .lp 0 0), (6, .lp 1 0), (8, .lp 2 0)]) (fun _ => [z5, z5, sums day l 0]) (fun i => [((i64s (sel day (l.take i) 0)).length, 2, 1)]) 0 (by omega) (fstep_tok 2 1 (t := 10) (.inl rfl) ⟨Sub.refl _, Sub.refl _, Sub.refl _, Sub.refl _, Sub.refl _, Sub.refl _, Sub.refl _, Sub.refl _, trivial⟩) ?_
        intro i hi
        refine bs_d (fun (h : (i : Int) < ((ivs l).length : Int)) => ?_) (fun (h : ¬ (i : Int) < ((ivs l).length : Int)) => ?_)
        · rw [ivs_len] at h
          have hi2 : i < l.length := by omega
          have hxi : l[i]? = some l[i] := List.getElem?_eq_getElem hi2
          have hxR := hx l[i] (List.getElem_mem hi2)
          have hxo := hok l[i] (List.getElem_mem hi2)
          generalize l[i] = x at hxi hxR hxo
          have hlate := refLate x hxR day hd
          rw [lateD, if_pos ⟨hxo, h1⟩, show ageOf (max (day - x.due) 0) = x.age day from rfl] at hlate
          have hopen := refOpen x hxR
          rw [if_pos hxo, ← op_ok hxo] at hopen
          have ei : IntKind.wrap .i64 ((i : Int) + 1) = ((i + 1 : Nat) : Int) := by rw [wi64]; omega
          have hsl := sel_len day (l.take i) 0
          rw [List.length_take] at hsl
          have hia : iaD 11 (.sl (ivs l)) (.int .i64 i) = some (.pe x.cs 0) := iaD_ivs (x := x) (by omega) (by simpa using hxi)
          have hst := sel_take (day := day) hxi 0
          by_cases hag : x.age day = 0
          · rw [if_pos hag] at hst
            rw [hag] at hlate
            repeat' first | with_reducible refine fzD_ite (fun q => ?_) (fun q => ?_) | ((try conv => whnf); first
              | refine bs_d (fun q => ?_) (fun q => ?_)
              | refine bs_n ?_
              | refine bs_i (fun q => ?_) (fun q => ?_)
              | refine ck rfl rfl (hlate) ?_
              | refine cq (hlate) ?_
              | refine ck rfl rfl (hopen) ?_
              | refine cq (hopen) ?_
              | refine pK_i hia ?_
              | refine gk_app (t := 0) rfl rfl rfl rfl rfl (by simp) (by simp [i64s_len, maxLen]; omega) ?_
              | refine fnext (i + 1) hi2 (by omega) (fstep_K ?_ ⟨Sub.int ei, Sub.refl _, Sub.refl _, Sub.of ?_, Sub.refl _, Sub.refl _, Sub.refl _, Sub.refl _, trivial⟩)
              | refine ffin _ rfl rfl hS (Sub.refl _) rfl ⟨?_, rfl, rfl⟩)
            all_goals (rw [hst, i64s_app]; rfl)
          · rw [if_neg hag, List.append_nil] at hst
            repeat' first | with_reducible refine fzD_ite (fun q => ?_) (fun q => ?_) | ((try conv => whnf); first
              | refine bs_f (decide_eq_false hag) ?_
              | refine bs_d (fun q => ?_) (fun q => ?_)
              | refine bs_n ?_
              | refine bs_i (fun q => ?_) (fun q => ?_)
              | refine ck rfl rfl (hlate) ?_
              | refine cq (hlate) ?_
              | refine ck rfl rfl (hopen) ?_
              | refine cq (hopen) ?_
              | refine pK_i hia ?_
              | refine fnext (i + 1) hi2 (by omega) (fstep_K ?_ ⟨Sub.int ei, Sub.refl _, Sub.refl _, Sub.of ?_, Sub.refl _, Sub.refl _, Sub.refl _, Sub.refl _, trivial⟩)
              | refine ffin _ rfl rfl hS (Sub.refl _) rfl ⟨?_, rfl, rfl⟩)
            all_goals (rw [hst]; first | done | rfl)
        · rw [ivs_len] at h
          have hi2 : i = l.length := by omega
          subst hi2
          rw [List.take_length]
          by_cases hs : agesum day l 0 < 9223372036854775808
          · rw [if_pos ⟨by omega, hs⟩] at hsum
            repeat' first | with_reducible refine fzD_ite (fun q => ?_) (fun q => ?_) | ((try conv => whnf); first
              | refine bs_d (fun q => ?_) (fun q => ?_)
              | refine bs_n ?_
              | refine bs_i (fun q => ?_) (fun q => ?_)
              | refine ckS rfl rfl hsum (.cons (Sub.rd rfl) .nil) ?_
              | refine fnext 1 ⟨by omega, ?_⟩ (by omega) (fstep_drop (J' := [_, _, _]) (Jx := []) (TK' := []) (TKx := [_]) rfl rfl ⟨Sub.refl _, Sub.refl _, Sub.refl _, Sub.refl _, Sub.refl _, Sub.refl _, trivial⟩ (hfr _) rfl)
              | refine ffin _ rfl rfl hS (Sub.refl _) rfl ⟨?_, rfl, rfl⟩)
            intro k hk
            by_cases hka : k = 0
            · subst hka; exact hs
            · exact hfit k (by omega)
          · rw [if_neg (fun h => hs h.2)] at hsum
            repeat' first | with_reducible refine fzD_ite (fun q => ?_) (fun q => ?_) | ((try conv => whnf); first
              | refine bs_d (fun q => ?_) (fun q => ?_)
              | refine bs_n ?_
              | refine bs_i (fun q => ?_) (fun q => ?_)
              | refine ckS rfl rfl hsum (.cons (Sub.rd rfl) .nil) ?_
              | refine ffin _ rfl rfl hS (Sub.refl _) rfl ⟨?_, rfl, rfl⟩)
            show D.tup _ = _
            rw [agesE, if_pos ⟨h1.1, h1.2, hok⟩, if_neg (fun hh => hs (hh 0 (by omega) (by omega)))]
            rfl
      · have hsum := refSum (sel day l 1) (by have := sel_len day l 1; omega) (sel_R day l 1)
        rw [sumS, sel_sum] at hsum
        have hnn := agesum_nn day l 1
        refine floop (α := Nat) rfl rfl hS (fun i => i ≤ l.length) (fun i => l.length - i) (fun i => [(11, .d (.int .i64 i)), (0, .d (.sl (ivs l))), (1, .d (.int .i64 day)), (10, .d (.gsl (i64s (sel day (l.take i) 1)) (tk.length + 0))), (9, .d (.int .i64 ((1 : Nat) : Int))), (4, .lp 0 0), (6, .lp 1 0), (8, .lp 2 0)]) (fun _ => [z5, z5, sums day l 1]) (fun i => [((i64s (sel day (l.take i) 1)).length, 2, 1)]) 0 (by omega) (fstep_tok 2 1 (t := 10) (.inl rfl) ⟨Sub.refl _, Sub.refl _, Sub.refl _, Sub.refl _, Sub.refl _, Sub.refl _, Sub.refl _, Sub.refl _, trivial⟩) ?_
        intro i hi
        refine bs_d (fun (h : (i : Int) < ((ivs l).length : Int)) => ?_) (fun (h : ¬ (i : Int) < ((ivs l).length : Int)) => ?_)
        · rw [ivs_len] at h
          have hi2 : i < l.length := by omega
          have hxi : l[i]? = some l[i] := List.getElem?_eq_getElem hi2
          have hxR := hx l[i] (List.getElem_mem hi2)
          have hxo := hok l[i] (List.getElem_mem hi2)
          generalize l[i] = x at hxi hxR hxo
          have hlate := refLate x hxR day hd
          rw [lateD, if_pos ⟨hxo, h1⟩, show ageOf (max (day - x.due) 0) = x.age day from rfl] at hlate
          have hopen := refOpen x hxR
          rw [if_pos hxo, ← op_ok hxo] at hopen
          have ei : IntKind.wrap .i64 ((i : Int) + 1) = ((i + 1 : Nat) : Int) := by rw [wi64]; omega
          have hsl := sel_len day (l.take i) 1
          rw [List.length_take] at hsl
          have hia : iaD 11 (.sl (ivs l)) (.int .i64 i) = some (.pe x.cs 0) := iaD_ivs (x := x) (by omega) (by simpa using hxi)
          have hst := sel_take (day := day) hxi 1
          by_cases hag : x.age day = 1
          · rw [if_pos hag] at hst
            rw [hag] at hlate
            repeat' first | with_reducible refine fzD_ite (fun q => ?_) (fun q => ?_) | ((try conv => whnf); first
              | refine bs_d (fun q => ?_) (fun q => ?_)
              | refine bs_n ?_
              | refine bs_i (fun q => ?_) (fun q => ?_)
              | refine ck rfl rfl (hlate) ?_
              | refine cq (hlate) ?_
              | refine ck rfl rfl (hopen) ?_
              | refine cq (hopen) ?_
              | refine pK_i hia ?_
              | refine gk_app (t := 0) rfl rfl rfl rfl rfl (by simp) (by simp [i64s_len, maxLen]; omega) ?_
              | refine fnext (i + 1) hi2 (by omega) (fstep_K ?_ ⟨Sub.int ei, Sub.refl _, Sub.refl _, Sub.of ?_, Sub.refl _, Sub.refl _, Sub.refl _, Sub.refl _, trivial⟩)
              | refine ffin _ rfl rfl hS (Sub.refl _) rfl ⟨?_, rfl, rfl⟩)
            all_goals (rw [hst, i64s_app]; rfl)
          · rw [if_neg hag, List.append_nil] at hst
            repeat' first | with_reducible refine fzD_ite (fun q => ?_) (fun q => ?_) | ((try conv => whnf); first
              | refine bs_f (decide_eq_false hag) ?_
              | refine bs_d (fun q => ?_) (fun q => ?_)
              | refine bs_n ?_
              | refine bs_i (fun q => ?_) (fun q => ?_)
              | refine ck rfl rfl (hlate) ?_
              | refine cq (hlate) ?_
              | refine ck rfl rfl (hopen) ?_
              | refine cq (hopen) ?_
              | refine pK_i hia ?_
              | refine fnext (i + 1) hi2 (by omega) (fstep_K ?_ ⟨Sub.int ei, Sub.refl _, Sub.refl _, Sub.of ?_, Sub.refl _, Sub.refl _, Sub.refl _, Sub.refl _, trivial⟩)
              | refine ffin _ rfl rfl hS (Sub.refl _) rfl ⟨?_, rfl, rfl⟩)
            all_goals (rw [hst]; first | done | rfl)
        · rw [ivs_len] at h
          have hi2 : i = l.length := by omega
          subst hi2
          rw [List.take_length]
          by_cases hs : agesum day l 1 < 9223372036854775808
          · rw [if_pos ⟨by omega, hs⟩] at hsum
            repeat' first | with_reducible refine fzD_ite (fun q => ?_) (fun q => ?_) | ((try conv => whnf); first
              | refine bs_d (fun q => ?_) (fun q => ?_)
              | refine bs_n ?_
              | refine bs_i (fun q => ?_) (fun q => ?_)
              | refine ckS rfl rfl hsum (.cons (Sub.rd rfl) .nil) ?_
              | refine fnext 2 ⟨by omega, ?_⟩ (by omega) (fstep_drop (J' := [_, _, _]) (Jx := []) (TK' := []) (TKx := [_]) rfl rfl ⟨Sub.refl _, Sub.refl _, Sub.refl _, Sub.refl _, Sub.refl _, Sub.refl _, trivial⟩ (hfr _) rfl)
              | refine ffin _ rfl rfl hS (Sub.refl _) rfl ⟨?_, rfl, rfl⟩)
            intro k hk
            by_cases hka : k = 1
            · subst hka; exact hs
            · exact hfit k (by omega)
          · rw [if_neg (fun h => hs h.2)] at hsum
            repeat' first | with_reducible refine fzD_ite (fun q => ?_) (fun q => ?_) | ((try conv => whnf); first
              | refine bs_d (fun q => ?_) (fun q => ?_)
              | refine bs_n ?_
              | refine bs_i (fun q => ?_) (fun q => ?_)
              | refine ckS rfl rfl hsum (.cons (Sub.rd rfl) .nil) ?_
              | refine ffin _ rfl rfl hS (Sub.refl _) rfl ⟨?_, rfl, rfl⟩)
            show D.tup _ = _
            rw [agesE, if_pos ⟨h1.1, h1.2, hok⟩, if_neg (fun hh => hs (hh 1 (by omega) (by omega)))]
            rfl
      · have hsum := refSum (sel day l 2) (by have := sel_len day l 2; omega) (sel_R day l 2)
        rw [sumS, sel_sum] at hsum
        have hnn := agesum_nn day l 2
        refine floop (α := Nat) rfl rfl hS (fun i => i ≤ l.length) (fun i => l.length - i) (fun i => [(11, .d (.int .i64 i)), (0, .d (.sl (ivs l))), (1, .d (.int .i64 day)), (10, .d (.gsl (i64s (sel day (l.take i) 2)) (tk.length + 0))), (9, .d (.int .i64 ((2 : Nat) : Int))), (4, .lp 0 0), (6, .lp 1 0), (8, .lp 2 0)]) (fun _ => [z5, z5, sums day l 2]) (fun i => [((i64s (sel day (l.take i) 2)).length, 2, 1)]) 0 (by omega) (fstep_tok 2 1 (t := 10) (.inl rfl) ⟨Sub.refl _, Sub.refl _, Sub.refl _, Sub.refl _, Sub.refl _, Sub.refl _, Sub.refl _, Sub.refl _, trivial⟩) ?_
        intro i hi
        refine bs_d (fun (h : (i : Int) < ((ivs l).length : Int)) => ?_) (fun (h : ¬ (i : Int) < ((ivs l).length : Int)) => ?_)
        · rw [ivs_len] at h
          have hi2 : i < l.length := by omega
          have hxi : l[i]? = some l[i] := List.getElem?_eq_getElem hi2
          have hxR := hx l[i] (List.getElem_mem hi2)
          have hxo := hok l[i] (List.getElem_mem hi2)
          generalize l[i] = x at hxi hxR hxo
          have hlate := refLate x hxR day hd
          rw [lateD, if_pos ⟨hxo, h1⟩, show ageOf (max (day - x.due) 0) = x.age day from rfl] at hlate
          have hopen := refOpen x hxR
          rw [if_pos hxo, ← op_ok hxo] at hopen
          have ei : IntKind.wrap .i64 ((i : Int) + 1) = ((i + 1 : Nat) : Int) := by rw [wi64]; omega
          have hsl := sel_len day (l.take i) 2
          rw [List.length_take] at hsl
          have hia : iaD 11 (.sl (ivs l)) (.int .i64 i) = some (.pe x.cs 0) := iaD_ivs (x := x) (by omega) (by simpa using hxi)
          have hst := sel_take (day := day) hxi 2
          by_cases hag : x.age day = 2
          · rw [if_pos hag] at hst
            rw [hag] at hlate
            repeat' first | with_reducible refine fzD_ite (fun q => ?_) (fun q => ?_) | ((try conv => whnf); first
              | refine bs_d (fun q => ?_) (fun q => ?_)
              | refine bs_n ?_
              | refine bs_i (fun q => ?_) (fun q => ?_)
              | refine ck rfl rfl (hlate) ?_
              | refine cq (hlate) ?_
              | refine ck rfl rfl (hopen) ?_
              | refine cq (hopen) ?_
              | refine pK_i hia ?_
              | refine gk_app (t := 0) rfl rfl rfl rfl rfl (by simp) (by simp [i64s_len, maxLen]; omega) ?_
              | refine fnext (i + 1) hi2 (by omega) (fstep_K ?_ ⟨Sub.int ei, Sub.refl _, Sub.refl _, Sub.of ?_, Sub.refl _, Sub.refl _, Sub.refl _, Sub.refl _, trivial⟩)
              | refine ffin _ rfl rfl hS (Sub.refl _) rfl ⟨?_, rfl, rfl⟩)
            all_goals (rw [hst, i64s_app]; rfl)
          · rw [if_neg hag, List.append_nil] at hst
            repeat' first | with_reducible refine fzD_ite (fun q => ?_) (fun q => ?_) | ((try conv => whnf); first
              | refine bs_f (decide_eq_false hag) ?_
              | refine bs_d (fun q => ?_) (fun q => ?_)
              | refine bs_n ?_
              | refine bs_i (fun q => ?_) (fun q => ?_)
              | refine ck rfl rfl (hlate) ?_
              | refine cq (hlate) ?_
              | refine ck rfl rfl (hopen) ?_
              | refine cq (hopen) ?_
              | refine pK_i hia ?_
              | refine fnext (i + 1) hi2 (by omega) (fstep_K ?_ ⟨Sub.int ei, Sub.refl _, Sub.refl _, Sub.of ?_, Sub.refl _, Sub.refl _, Sub.refl _, Sub.refl _, trivial⟩)
              | refine ffin _ rfl rfl hS (Sub.refl _) rfl ⟨?_, rfl, rfl⟩)
            all_goals (rw [hst]; first | done | rfl)
        · rw [ivs_len] at h
          have hi2 : i = l.length := by omega
          subst hi2
          rw [List.take_length]
          by_cases hs : agesum day l 2 < 9223372036854775808
          · rw [if_pos ⟨by omega, hs⟩] at hsum
            repeat' first | with_reducible refine fzD_ite (fun q => ?_) (fun q => ?_) | ((try conv => whnf); first
              | refine bs_d (fun q => ?_) (fun q => ?_)
              | refine bs_n ?_
              | refine bs_i (fun q => ?_) (fun q => ?_)
              | refine ckS rfl rfl hsum (.cons (Sub.rd rfl) .nil) ?_
              | refine fnext 3 ⟨by omega, ?_⟩ (by omega) (fstep_drop (J' := [_, _, _]) (Jx := []) (TK' := []) (TKx := [_]) rfl rfl ⟨Sub.refl _, Sub.refl _, Sub.refl _, Sub.refl _, Sub.refl _, Sub.refl _, trivial⟩ (hfr _) rfl)
              | refine ffin _ rfl rfl hS (Sub.refl _) rfl ⟨?_, rfl, rfl⟩)
            intro k hk
            by_cases hka : k = 2
            · subst hka; exact hs
            · exact hfit k (by omega)
          · rw [if_neg (fun h => hs h.2)] at hsum
            repeat' first | with_reducible refine fzD_ite (fun q => ?_) (fun q => ?_) | ((try conv => whnf); first
              | refine bs_d (fun q => ?_) (fun q => ?_)
              | refine bs_n ?_
              | refine bs_i (fun q => ?_) (fun q => ?_)
              | refine ckS rfl rfl hsum (.cons (Sub.rd rfl) .nil) ?_
              | refine ffin _ rfl rfl hS (Sub.refl _) rfl ⟨?_, rfl, rfl⟩)
            show D.tup _ = _
            rw [agesE, if_pos ⟨h1.1, h1.2, hok⟩, if_neg (fun hh => hs (hh 2 (by omega) (by omega)))]
            rfl
      · have hsum := refSum (sel day l 3) (by have := sel_len day l 3; omega) (sel_R day l 3)
        rw [sumS, sel_sum] at hsum
        have hnn := agesum_nn day l 3
        refine floop (α := Nat) rfl rfl hS (fun i => i ≤ l.length) (fun i => l.length - i) (fun i => [(11, .d (.int .i64 i)), (0, .d (.sl (ivs l))), (1, .d (.int .i64 day)), (10, .d (.gsl (i64s (sel day (l.take i) 3)) (tk.length + 0))), (9, .d (.int .i64 ((3 : Nat) : Int))), (4, .lp 0 0), (6, .lp 1 0), (8, .lp 2 0)]) (fun _ => [z5, z5, sums day l 3]) (fun i => [((i64s (sel day (l.take i) 3)).length, 2, 1)]) 0 (by omega) (fstep_tok 2 1 (t := 10) (.inl rfl) ⟨Sub.refl _, Sub.refl _, Sub.refl _, Sub.refl _, Sub.refl _, Sub.refl _, Sub.refl _, Sub.refl _, trivial⟩) ?_
        intro i hi
        refine bs_d (fun (h : (i : Int) < ((ivs l).length : Int)) => ?_) (fun (h : ¬ (i : Int) < ((ivs l).length : Int)) => ?_)
        · rw [ivs_len] at h
          have hi2 : i < l.length := by omega
          have hxi : l[i]? = some l[i] := List.getElem?_eq_getElem hi2
          have hxR := hx l[i] (List.getElem_mem hi2)
          have hxo := hok l[i] (List.getElem_mem hi2)
          generalize l[i] = x at hxi hxR hxo
          have hlate := refLate x hxR day hd
          rw [lateD, if_pos ⟨hxo, h1⟩, show ageOf (max (day - x.due) 0) = x.age day from rfl] at hlate
          have hopen := refOpen x hxR
          rw [if_pos hxo, ← op_ok hxo] at hopen
          have ei : IntKind.wrap .i64 ((i : Int) + 1) = ((i + 1 : Nat) : Int) := by rw [wi64]; omega
          have hsl := sel_len day (l.take i) 3
          rw [List.length_take] at hsl
          have hia : iaD 11 (.sl (ivs l)) (.int .i64 i) = some (.pe x.cs 0) := iaD_ivs (x := x) (by omega) (by simpa using hxi)
          have hst := sel_take (day := day) hxi 3
          by_cases hag : x.age day = 3
          · rw [if_pos hag] at hst
            rw [hag] at hlate
            repeat' first | with_reducible refine fzD_ite (fun q => ?_) (fun q => ?_) | ((try conv => whnf); first
              | refine bs_d (fun q => ?_) (fun q => ?_)
              | refine bs_n ?_
              | refine bs_i (fun q => ?_) (fun q => ?_)
              | refine ck rfl rfl (hlate) ?_
              | refine cq (hlate) ?_
              | refine ck rfl rfl (hopen) ?_
              | refine cq (hopen) ?_
              | refine pK_i hia ?_
              | refine gk_app (t := 0) rfl rfl rfl rfl rfl (by simp) (by simp [i64s_len, maxLen]; omega) ?_
              | refine fnext (i + 1) hi2 (by omega) (fstep_K ?_ ⟨Sub.int ei, Sub.refl _, Sub.refl _, Sub.of ?_, Sub.refl _, Sub.refl _, Sub.refl _, Sub.refl _, trivial⟩)
              | refine ffin _ rfl rfl hS (Sub.refl _) rfl ⟨?_, rfl, rfl⟩)
            all_goals (rw [hst, i64s_app]; rfl)
          · rw [if_neg hag, List.append_nil] at hst
            repeat' first | with_reducible refine fzD_ite (fun q => ?_) (fun q => ?_) | ((try conv => whnf); first
              | refine bs_f (decide_eq_false hag) ?_
              | refine bs_d (fun q => ?_) (fun q => ?_)
              | refine bs_n ?_
              | refine bs_i (fun q => ?_) (fun q => ?_)
              | refine ck rfl rfl (hlate) ?_
              | refine cq (hlate) ?_
              | refine ck rfl rfl (hopen) ?_
              | refine cq (hopen) ?_
              | refine pK_i hia ?_
              | refine fnext (i + 1) hi2 (by omega) (fstep_K ?_ ⟨Sub.int ei, Sub.refl _, Sub.refl _, Sub.of ?_, Sub.refl _, Sub.refl _, Sub.refl _, Sub.refl _, trivial⟩)
              | refine ffin _ rfl rfl hS (Sub.refl _) rfl ⟨?_, rfl, rfl⟩)
            all_goals (rw [hst]; first | done | rfl)
        · rw [ivs_len] at h
          have hi2 : i = l.length := by omega
          subst hi2
          rw [List.take_length]
          by_cases hs : agesum day l 3 < 9223372036854775808
          · rw [if_pos ⟨by omega, hs⟩] at hsum
            repeat' first | with_reducible refine fzD_ite (fun q => ?_) (fun q => ?_) | ((try conv => whnf); first
              | refine bs_d (fun q => ?_) (fun q => ?_)
              | refine bs_n ?_
              | refine bs_i (fun q => ?_) (fun q => ?_)
              | refine ckS rfl rfl hsum (.cons (Sub.rd rfl) .nil) ?_
              | refine fnext 4 ⟨by omega, ?_⟩ (by omega) (fstep_drop (J' := [_, _, _]) (Jx := []) (TK' := []) (TKx := [_]) rfl rfl ⟨Sub.refl _, Sub.refl _, Sub.refl _, Sub.refl _, Sub.refl _, Sub.refl _, trivial⟩ (hfr _) rfl)
              | refine ffin _ rfl rfl hS (Sub.refl _) rfl ⟨?_, rfl, rfl⟩)
            intro k hk
            by_cases hka : k = 3
            · subst hka; exact hs
            · exact hfit k (by omega)
          · rw [if_neg (fun h => hs h.2)] at hsum
            repeat' first | with_reducible refine fzD_ite (fun q => ?_) (fun q => ?_) | ((try conv => whnf); first
              | refine bs_d (fun q => ?_) (fun q => ?_)
              | refine bs_n ?_
              | refine bs_i (fun q => ?_) (fun q => ?_)
              | refine ckS rfl rfl hsum (.cons (Sub.rd rfl) .nil) ?_
              | refine ffin _ rfl rfl hS (Sub.refl _) rfl ⟨?_, rfl, rfl⟩)
            show D.tup _ = _
            rw [agesE, if_pos ⟨h1.1, h1.2, hok⟩, if_neg (fun hh => hs (hh 3 (by omega) (by omega)))]
            rfl
      · have hsum := refSum (sel day l 4) (by have := sel_len day l 4; omega) (sel_R day l 4)
        rw [sumS, sel_sum] at hsum
        have hnn := agesum_nn day l 4
        refine floop (α := Nat) rfl rfl hS (fun i => i ≤ l.length) (fun i => l.length - i) (fun i => [(11, .d (.int .i64 i)), (0, .d (.sl (ivs l))), (1, .d (.int .i64 day)), (10, .d (.gsl (i64s (sel day (l.take i) 4)) (tk.length + 0))), (9, .d (.int .i64 ((4 : Nat) : Int))), (4, .lp 0 0), (6, .lp 1 0), (8, .lp 2 0)]) (fun _ => [z5, z5, sums day l 4]) (fun i => [((i64s (sel day (l.take i) 4)).length, 2, 1)]) 0 (by omega) (fstep_tok 2 1 (t := 10) (.inl rfl) ⟨Sub.refl _, Sub.refl _, Sub.refl _, Sub.refl _, Sub.refl _, Sub.refl _, Sub.refl _, Sub.refl _, trivial⟩) ?_
        intro i hi
        refine bs_d (fun (h : (i : Int) < ((ivs l).length : Int)) => ?_) (fun (h : ¬ (i : Int) < ((ivs l).length : Int)) => ?_)
        · rw [ivs_len] at h
          have hi2 : i < l.length := by omega
          have hxi : l[i]? = some l[i] := List.getElem?_eq_getElem hi2
          have hxR := hx l[i] (List.getElem_mem hi2)
          have hxo := hok l[i] (List.getElem_mem hi2)
          generalize l[i] = x at hxi hxR hxo
          have hlate := refLate x hxR day hd
          rw [lateD, if_pos ⟨hxo, h1⟩, show ageOf (max (day - x.due) 0) = x.age day from rfl] at hlate
          have hopen := refOpen x hxR
          rw [if_pos hxo, ← op_ok hxo] at hopen
          have ei : IntKind.wrap .i64 ((i : Int) + 1) = ((i + 1 : Nat) : Int) := by rw [wi64]; omega
          have hsl := sel_len day (l.take i) 4
          rw [List.length_take] at hsl
          have hia : iaD 11 (.sl (ivs l)) (.int .i64 i) = some (.pe x.cs 0) := iaD_ivs (x := x) (by omega) (by simpa using hxi)
          have hst := sel_take (day := day) hxi 4
          by_cases hag : x.age day = 4
          · rw [if_pos hag] at hst
            rw [hag] at hlate
            repeat' first | with_reducible refine fzD_ite (fun q => ?_) (fun q => ?_) | ((try conv => whnf); first
              | refine bs_d (fun q => ?_) (fun q => ?_)
              | refine bs_n ?_
              | refine bs_i (fun q => ?_) (fun q => ?_)
              | refine ck rfl rfl (hlate) ?_
              | refine cq (hlate) ?_
              | refine ck rfl rfl (hopen) ?_
              | refine cq (hopen) ?_
              | refine pK_i hia ?_
              | refine gk_app (t := 0) rfl rfl rfl rfl rfl (by simp) (by simp [i64s_len, maxLen]; omega) ?_
              | refine fnext (i + 1) hi2 (by omega) (fstep_K ?_ ⟨Sub.int ei, Sub.refl _, Sub.refl _, Sub.of ?_, Sub.refl _, Sub.refl _, Sub.refl _, Sub.refl _, trivial⟩)
              | refine ffin _ rfl rfl hS (Sub.refl _) rfl ⟨?_, rfl, rfl⟩)
            all_goals (rw [hst, i64s_app]; rfl)
          · rw [if_neg hag, List.append_nil] at hst
            repeat' first | with_reducible refine fzD_ite (fun q => ?_) (fun q => ?_) | ((try conv => whnf); first
              | refine bs_f (decide_eq_false hag) ?_
              | refine bs_d (fun q => ?_) (fun q => ?_)
              | refine bs_n ?_
              | refine bs_i (fun q => ?_) (fun q => ?_)
              | refine ck rfl rfl (hlate) ?_
              | refine cq (hlate) ?_
              | refine ck rfl rfl (hopen) ?_
              | refine cq (hopen) ?_
              | refine pK_i hia ?_
              | refine fnext (i + 1) hi2 (by omega) (fstep_K ?_ ⟨Sub.int ei, Sub.refl _, Sub.refl _, Sub.of ?_, Sub.refl _, Sub.refl _, Sub.refl _, Sub.refl _, trivial⟩)
              | refine ffin _ rfl rfl hS (Sub.refl _) rfl ⟨?_, rfl, rfl⟩)
            all_goals (rw [hst]; first | done | rfl)
        · rw [ivs_len] at h
          have hi2 : i = l.length := by omega
          subst hi2
          rw [List.take_length]
          by_cases hs : agesum day l 4 < 9223372036854775808
          · rw [if_pos ⟨by omega, hs⟩] at hsum
            repeat' first | with_reducible refine fzD_ite (fun q => ?_) (fun q => ?_) | ((try conv => whnf); first
              | refine bs_d (fun q => ?_) (fun q => ?_)
              | refine bs_n ?_
              | refine bs_i (fun q => ?_) (fun q => ?_)
              | refine ckS rfl rfl hsum (.cons (Sub.rd rfl) .nil) ?_
              | refine fnext 5 ⟨by omega, ?_⟩ (by omega) (fstep_drop (J' := [_, _, _]) (Jx := []) (TK' := []) (TKx := [_]) rfl rfl ⟨Sub.refl _, Sub.refl _, Sub.refl _, Sub.refl _, Sub.refl _, Sub.refl _, trivial⟩ (hfr _) rfl)
              | refine ffin _ rfl rfl hS (Sub.refl _) rfl ⟨?_, rfl, rfl⟩)
            intro k hk
            by_cases hka : k = 4
            · subst hka; exact hs
            · exact hfit k (by omega)
          · rw [if_neg (fun h => hs h.2)] at hsum
            repeat' first | with_reducible refine fzD_ite (fun q => ?_) (fun q => ?_) | ((try conv => whnf); first
              | refine bs_d (fun q => ?_) (fun q => ?_)
              | refine bs_n ?_
              | refine bs_i (fun q => ?_) (fun q => ?_)
              | refine ckS rfl rfl hsum (.cons (Sub.rd rfl) .nil) ?_
              | refine ffin _ rfl rfl hS (Sub.refl _) rfl ⟨?_, rfl, rfl⟩)
            show D.tup _ = _
            rw [agesE, if_pos ⟨h1.1, h1.2, hok⟩, if_neg (fun hh => hs (hh 4 (by omega) (by omega)))]
            rfl
      · skip
        repeat' first | with_reducible refine fzD_ite (fun q => ?_) (fun q => ?_) | ((try conv => whnf); first
          | refine bs_d (fun q => ?_) (fun q => ?_)
          | refine bs_n ?_
          | refine bs_i (fun q => ?_) (fun q => ?_)
          | refine ffin _ rfl rfl hS (Sub.refl _) rfl ⟨?_, rfl, rfl⟩)
        show D.tup _ = _
        have hfits : fits day l := fun a h0 h5 => by obtain ⟨k, rfl⟩ := Int.eq_ofNat_of_zero_le h0; exact hfit k (by omega)
        have e : agesE day l = 0 := by rw [agesE, if_pos ⟨h1.1, h1.2, hok⟩, if_pos hfits]
        rw [e]
        rfl
  · rw [decide_eq_false h1] at hw
    refine ACalls.fgo c11 rfl fun hS => ?_
    repeat' first | with_reducible refine fzD_ite (fun q => ?_) (fun q => ?_) | ((try conv => whnf); first
      | refine bs_d (fun q => ?_) (fun q => ?_)
      | refine bs_n ?_
      | refine bs_i (fun q => ?_) (fun q => ?_)
      | refine ck rfl rfl (hw) ?_
      | refine cq (hw) ?_
      | refine ffin _ rfl rfl hS (Sub.refl _) rfl ⟨?_, rfl, rfl⟩)
    show D.tup _ = _
    rw [agesE, if_neg (fun h => h1 ⟨h.1, h.2.1⟩)]
    rfl

end Go.KL.YtmijcaccgbhgdaaDoor
