/- notes.ordered -/
import Derived.Test.YtgdidchpignbpaaNb
set_option linter.unusedVariables false
set_option linter.unusedSimpArgs false
set_option linter.unusedSectionVars false
set_option maxRecDepth 4000
namespace Go.KL.Ytgdidchpignbpaa
open Go Go.KL Go.RowKit Go.Proofs

theorem c82 : cFun E0.P 82 = some ⟨21, [(4, none)], .seq (.rg [⟨some 2, none, .box (.t 0) 46⟩, ⟨some 3, none, .box (.t 1) 157⟩, ⟨some 4, none, .mv (.k .nilsl)⟩]) (.seq (.rg [⟨some 5, none, .mv (.k .nilsl)⟩]) (.seq (.seq (.rg [⟨some 7, none, .ld 1 false (.t 2)⟩, ⟨some 8, none, .len 1 (.t 7)⟩, ⟨some 9, none, .mv (.k (.int .i64 0))⟩]) (.block 0 (.loop (.seq (.rg [⟨some 10, none, .bin .lss .leaf (.t 9) (.t 8)⟩]) (.seq (.cond (.t 10) .skip (.exit 0)) (.seq (.block 1 (.seq (.rg [⟨some 11, none, .mv (.t 9)⟩, ⟨some 6, none, .mv (.t 11)⟩]) (.rg [⟨some 12, none, .mv (.t 5)⟩, ⟨some 13, none, .mv (.t 6)⟩, ⟨some 14, none, .buildS 1 1 [.int .i64 0] [(0, .t 13)] 3⟩, ⟨some 15, none, .app 68 3 1 8 [.int .i64 0] (.t 12) (.t 14)⟩, ⟨some 5, none, .mv (.t 15)⟩]))) (.rg [⟨some 16, none, .bin .add .leaf (.t 9) (.k (.int .i64 1))⟩, ⟨some 9, none, .mv (.t 16)⟩]))))))) (.seq (.rg [⟨some 17, none, .mv (.t 5)⟩, ⟨some 18, none, .mkfn 137 [.t 3, .t 2]⟩, ⟨some 19, none, .call 136 [.t 17, .t 18]⟩]) (.seq (.rg [⟨some 20, none, .mv (.t 5)⟩, ⟨some 4, none, .mv (.t 20)⟩]) .ret))))⟩ := by kernel_rfl

/-- does the first stand behind the second? -/
def later (l : List Iv) (i k : Nat) : Prop := l[i]!.day > l[k]!.day ∨ l[i]!.day = l[k]!.day ∧ (l[i]!.id > l[k]!.id ∨ l[i]!.id = l[k]!.id ∧ i > k)
instance (l : List Iv) (i k : Nat) : Decidable (later l i k) := by unfold later; infer_instance
theorem ordI2 (a b : Int) : ordI [a, b] = if a ≠ 0 then a else if b ≠ 0 then b else 0 := rfl
theorem cmpO_lt {N : Nat} (l : List Iv) (i k : Fin (N + 1)) : cmpO l i k < 0 ↔ later l i.val k.val := by
  have h1 := cmpI_neg l[k.val]!.id l[i.val]!.id
  have h2 := cmpI_zero l[k.val]!.id l[i.val]!.id
  rw [cmpO, latI, ordI2, ordI2]
  unfold later
  by_cases c1 : l[k.val]!.day - l[i.val]!.day ≠ 0
  · rw [if_pos c1, if_pos c1]; omega
  · rw [if_neg c1]
    by_cases c2 : cmpI l[k.val]!.id l[i.val]!.id ≠ 0
    · rw [if_pos c2, if_pos c2]; omega
    · rw [if_neg c2]
      rw [if_neg (by simp)]
      split <;> omega
theorem later_irrefl (l : List Iv) (i : Nat) : ¬ later l i i := by unfold later; omega
theorem later_trans {l : List Iv} {i k m : Nat} (h : later l i k) (h' : later l k m) : later l i m := by unfold later at *; omega
theorem later_tri (l : List Iv) (i k : Nat) : later l i k ∨ i = k ∨ later l k i := by unfold later; omega
theorem swo_cmpO {N : Nat} (l : List Iv) : Go.Sort.SWO (CI.ltC (cmpO (N := N) l)) where
  irrefl x := by
    simp only [CI.ltC, decide_eq_false_iff_not, cmpO_lt]
    exact later_irrefl _ _
  trans x y z h1 h2 := by
    simp only [CI.ltC, decide_eq_true_eq, cmpO_lt] at *
    exact later_trans h1 h2
  ntrans x y z h1 h2 := by
    simp only [CI.ltC, decide_eq_false_iff_not, cmpO_lt] at *
    intro h
    rcases later_tri l x.val y.val with h3 | h3 | h3
    · exact h1 h3
    · rw [h3] at h; exact h2 h
    · exact h2 (later_trans h3 h)
/-- the places, the later ones ahead -/
structure Ord (l : List Iv) (at' : List Nat) : Prop where
  perm : at'.Perm (List.range l.length)
  st : at'.Pairwise (later l)
theorem ord_of {N : Nat} {l : List Iv} {d d' : Array (Fin (N + 1))} (hd : d.toList.map Fin.val = List.range l.length) (h : CI.Sorts (cmpO l) 0 d.size d d') : Ord l (d'.toList.map Fin.val) := by
  obtain ⟨⟨h1, h2, h3⟩, h4⟩ := h
  have e1 : d'.extract 0 d.size = d' := by rw [← h1]; simp
  have e2 : d.extract 0 d.size = d := by simp
  rw [e1, e2] at h3
  have hp : (d'.toList.map Fin.val).Perm (List.range l.length) := by rw [← hd]; exact h3.map _
  refine ⟨hp, ?_⟩
  have hn : (d'.toList.map Fin.val).Nodup := hp.nodup_iff.2 List.nodup_range
  rw [List.pairwise_map]
  rw [List.Nodup, List.pairwise_map] at hn
  refine (hn.and (List.pairwise_iff_getElem (R := fun a b => ¬ later l b.val a.val).2 ?_)).imp fun {a b} hab => ?_
  · intro i j hi hj hij
    have := h4 i j (Nat.zero_le _) hij (by rw [← h1]; simpa using hj)
    rw [Array.length_toList] at hi hj
    rw [getElem!_pos d' i hi, getElem!_pos d' j hj] at this
    simp only [CI.ltC, decide_eq_false_iff_not, cmpO_lt] at this
    simpa using this
  · rcases later_tri l a.val b.val with h | h | h
    · exact h
    · exact absurd h hab.1
    · exact absurd h hab.2
def nats (l : List Nat) : List (List D) := l.map fun n : Nat => [.int .i64 ((n : Nat) : Int)]
theorem nats_len (l : List Nat) : (nats l).length = l.length := List.length_map ..
theorem scLL_nats (n m : Nat) : ∀ l : List Nat, scLL n m (nats l) = true
  | [] => rfl
  | x :: l => by
    have h := scLL_nats n m l
    unfold nats at h ⊢
    simp only [List.map_cons, scLL, h, Bool.and_true]; rfl
def rangeF (N k : Nat) (h : k ≤ N + 1) : Array (Fin (N + 1)) := ((List.range k).pmap (fun i hi => (⟨i, hi⟩ : Fin (N + 1))) (fun i hi => by have := List.mem_range.1 hi; omega)).toArray
theorem rangeF_val (N k : Nat) (h : k ≤ N + 1) : (rangeF N k h).toList.map Fin.val = List.range k := by
  rw [rangeF]; simp [List.map_pmap]
theorem rangeF_size (N k : Nat) (h : k ≤ N + 1) : (rangeF N k h).size = k := by simp [rangeF]
theorem rangeF_rows (N k : Nat) (h : k ≤ N + 1) : rowsV CI.eD (rangeF N k h).toList = nats (List.range k) := by
  rw [← rangeF_val N k h, nats, rowsV, List.map_map]; rfl
theorem ordered (l : List Iv) (hN : l.length < 1099511620000) (hok : ∀ x ∈ l, x.ok) (S : List O) (tk : Tks) :
    ACalls E0 82 [.sl (ivs l), .fn 83 []] S tk (fun r S' tk' => (∃ o, Ord l o ∧ r = .sl (nats o)) ∧ S' = S ∧ tk' = tk) := by
  obtain ⟨N, hl⟩ : ∃ N, N = l.length - 1 := ⟨_, rfl⟩
  have hlen := ivs_len l
  refine ACalls.withSc fun hsc => ?_
  have hsc' : scLL S.length tk.length (ivs l) = true := by simp only [scL, D.sc, Bool.and_true] at hsc; exact hsc
  refine ACalls.fgo c82 rfl fun hS => ?_
  repeat' first | with_reducible refine fzD_ite (fun q => ?_) (fun q => ?_) | ((try conv => whnf); first
    | refine bs_d (fun q => ?_) (fun q => ?_)
    | refine bs_n ?_
    | refine bs_i (fun q => ?_) (fun q => ?_)
    | refine eqk rfl ?_
    | refine ffin _ rfl rfl hS (Sub.refl _) rfl ⟨?_, rfl, rfl⟩)
  refine floopS (α := Nat) rfl (fun i => i ≤ l.length) (fun i => l.length - i) (fun i => [(9, .d (.int .i64 i)), (8, .d (.int .i64 l.length)), (2, .lp 0 0), (3, .lp 1 0), (5, .d (.vec (S.length + 2) i 1))])
    (fun _ => S) (fun i => [.arr [.sl (ivs l)], .arr [.fn 83 []], .vec (nats (List.range i)) 3 1]) (fun _ => []) (fun _ _ => ⟨rfl, hS⟩) 0 (Nat.zero_le _) rfl (fstep_vec 3 1 (t := 5) (.inl rfl) ⟨Sub.refl _, Sub.int (by rw [hlen]), Sub.refl _, Sub.refl _, Sub.refl _, trivial⟩) ?_
  rintro i hi
  by_cases hlt : i < l.length
  · have hstep : nats (List.range i) ++ [[.int .i64 (i : Int)]] = nats (List.range (i + 1)) := by rw [List.range_succ, nats, nats, List.map_append]; rfl
    repeat' first | with_reducible refine fzD_ite (fun q => ?_) (fun q => ?_) | ((try conv => whnf); first
      | refine bs_t (decide_eq_true (by omega)) ?_
      | refine bs_d (fun q => ?_) (fun q => ?_)
      | refine bs_n ?_
      | refine bs_i (fun q => ?_) (fun q => ?_)
      | refine gk_appv (k := 2) (es := nats (List.range i)) (src := [[.int .i64 (i : Int)]]) rfl rfl (by rfl) (by rfl) (by rw [nats_len, List.length_range]) (by rfl) (by simp) (by rw [nats_len, List.length_range]; simp [maxLen]; omega) ?_
      | refine eqk rfl ?_
      | refine ffin _ rfl rfl hS (Sub.refl _) rfl ⟨?_, rfl, rfl⟩)
    conv => whnf
    refine fnextS (α := Nat) (i + 1) (by omega) (by omega) rfl ?_
    rw [hstep]
    exact fstep_J (by rfl) ⟨Sub.int (by first | rfl | omega | (refine Int.sub_eq_zero.mp ?_; simp (disch := ((try unfold I64); omega)) only [wi64_id, td]; omega)), Sub.refl _, Sub.refl _, Sub.refl _, Sub.of (congrArg (fun n => D.vec (S.length + 2) n 1) (by rw [nats_len, List.length_range])), trivial⟩
  · obtain rfl : i = l.length := by omega
    obtain ⟨d0, hd0v, hd0s, hd0r⟩ : ∃ d0 : Array (Fin (N + 1)), d0.toList.map Fin.val = List.range l.length ∧ d0.size = l.length ∧ rowsV CI.eD d0.toList = nats (List.range l.length) := ⟨rangeF N l.length (by omega), rangeF_val _ _ _, rangeF_size _ _ _, rangeF_rows _ _ _⟩
    have hsrt := CI.sortV (Q := fun S' => S'[S.length + 1]? = some (.arr [.fn 83 []]) ∧ S'[S.length + 0]? = some (.arr [.sl (ivs l)])) (cf := 137) (ca := S.length + 1) (cb := S.length + 0) (cmp := cmpO (N := N) l) (S.length + 2) l.length
      ⟨by kernel_rfl, fun S' J h => ⟨by rw [List.getElem?_append_left (lt_of_at h.1)]; exact h.1, by rw [List.getElem?_append_left (lt_of_at h.2)]; exact h.2⟩,
       fun h0 S' d tk x y hid hQ => orderedC l (by omega) (by omega) hok _ _ _ _ x y (by rw [List.getElem?_set_ne (by omega)]; exact hQ.1) (by rw [List.getElem?_set_ne (by omega)]; exact hQ.2)⟩
      (swo_cmpO l) d0 hd0s (by omega)
    have e1 : ∀ d : Array (Fin (N + 1)), (S ++ [O.arr [D.sl (ivs l)], O.arr [D.fn 83 []], O.vec (nats (List.range l.length)) 3 1]).set (S.length + 2) (CI.VI d) = S ++ [O.arr [D.sl (ivs l)], O.arr [D.fn 83 []], CI.VI d] := fun d => by
      rw [List.set_append_right _ _ (by omega)]; simp
    have e2 : CI.VI d0 = .vec (nats (List.range l.length)) 3 1 := by rw [CI.VI, VO, hd0r]
    have hS1 := hsrt (S ++ [O.arr [D.sl (ivs l)], O.arr [D.fn 83 []], O.vec (nats (List.range l.length)) 3 1]) tk (by simp) ⟨at_own rfl rfl, at_own rfl rfl⟩
    rw [e1, e2] at hS1
    repeat' first | with_reducible refine fzD_ite (fun q => ?_) (fun q => ?_) | ((try conv => whnf); first
      | refine bs_f (decide_eq_false (by omega)) ?_
      | refine bs_d (fun q => ?_) (fun q => ?_)
      | refine bs_n ?_
      | refine bs_i (fun q => ?_) (fun q => ?_)
      | (refine ckG (by rw [List.append_nil]; exact hS1) ?_; rintro r S' tk' ⟨d', ⟨rfl, hq⟩, rfl, rfl⟩; refine ⟨S, _, tk', [], e1 _, (List.append_nil _).symm, rfl, rfl, ?_⟩)
      | refine eqk rfl ?_
      | refine ffin _ rfl rfl hS (Sub.refl _) rfl ⟨?_, rfl, rfl⟩)
    conv => whnf
    have hq' : CI.Sorts (cmpO l) 0 d0.size d0 d' := by rw [hd0s]; exact hq
    have e3 : (rowsV CI.eD d'.toList).length = l.length := by rw [rowsV_len]; simp [hq.1.1, hd0s]
    have e4 : rowsV CI.eD d'.toList = nats (d'.toList.map Fin.val) := by rw [nats, rowsV, List.map_map]; rfl
    have fin : FFin E0 S.length (List.length tk') S [.arr [.sl (ivs l)], .arr [.fn 83 []], CI.VI d'] tk' [] (.vec (S.length + 2) (rowsV CI.eD d'.toList).length 1) (fun r S' t => (∃ o, Ord l o ∧ r = .sl (nats o)) ∧ S' = S ∧ t = tk') :=
      ffinV (d' := .top) rfl rfl hS (by rfl) (scLL_rows CI.eE _ _ _) ⟨⟨d'.toList.map Fin.val, ord_of hd0v hq', by rw [e4]⟩, rfl, rfl⟩
    rw [e3] at fin
    exact fin
end Go.KL.Ytgdidchpignbpaa

/- notes.Spread -/
set_option linter.unusedVariables false
set_option linter.unusedSimpArgs false
set_option linter.unusedSectionVars false
set_option maxRecDepth 4000
namespace Go.KL.Ytgdidchpignbpaa
open Go Go.KL Go.RowKit Go.Proofs

theorem c23 : cFun E0.P 23 = some ⟨51, [(4, none), (5, none)], .seq (.rg [⟨some 4, none, .mv (.k .nilsl)⟩, ⟨some 5, none, .mv (.k (.int .i64 0))⟩]) (.seq (.seq (.rg [⟨some 9, none, .mv (.t 1)⟩, ⟨some 10, none, .bin .lss .leaf (.t 9) (.k (.int .i64 1))⟩, ⟨some 11, none, .mv (.t 10)⟩, ⟨some 12, some (11, false), .mv (.t 0)⟩, ⟨some 13, some (11, false), .call 80 [.t 12, .k (.fn 81 [])]⟩, ⟨some 14, none, .pick (.t 11) (.k (.bool true)) (.t 13)⟩]) (.cond (.t 14) (.seq (.rg [⟨some 4, none, .mv (.k .nilsl)⟩, ⟨some 5, none, .mv (.k (.int .i64 2))⟩]) .ret) .skip)) (.seq (.rg [⟨some 15, none, .mv (.t 0)⟩, ⟨some 16, none, .len 1 (.t 15)⟩, ⟨some 17, none, .mksl 2 1 8 [.int .i64 0] (.t 16) (.t 16)⟩, ⟨some 6, none, .mv (.t 17)⟩]) (.seq (.seq (.rg [⟨some 18, none, .mv (.t 0)⟩, ⟨some 19, none, .call 82 [.t 18, .k (.fn 83 [])]⟩, ⟨some 20, none, .len 1 (.t 19)⟩, ⟨some 21, none, .mv (.k (.int .i64 0))⟩]) (.block 0 (.loop (.seq (.rg [⟨some 22, none, .bin .lss .leaf (.t 21) (.t 20)⟩]) (.seq (.cond (.t 22) .skip (.exit 0)) (.seq (.block 1 (.seq (.rg [⟨some 23, none, .ia 1 (.t 19) (.t 21)⟩, ⟨some 24, none, .ld 1 false (.t 23)⟩, ⟨some 8, none, .mv (.t 24)⟩]) (.seq (.rd [(⟨some 25, none, .mv (.t 6)⟩, none), (⟨some 26, none, .mv (.t 8)⟩, none), (⟨some 27, none, .mv (.t 1)⟩, none), (⟨some 28, none, .mv (.t 0)⟩, none), (⟨some 29, none, .mv (.t 8)⟩, none), (⟨some 30, none, .ia 11 (.t 28) (.t 29)⟩, none), (⟨some 31, none, .ld 11 true (.t 30)⟩, none), (⟨some 32, none, .call 28 [.t 31]⟩, none), (⟨some 33, none, .mv (.t 0)⟩, none), (⟨some 34, none, .mv (.t 8)⟩, none), (⟨some 35, none, .ia 11 (.t 33) (.t 34)⟩, none), (⟨some 36, none, .fa 9 (.t 35)⟩, none), (⟨some 37, none, .ld 1 false (.t 36)⟩, none), (⟨some 38, none, .bin .add .leaf (.t 32) (.t 37)⟩, none), (⟨some 39, none, .mm false [.t 27, .t 38]⟩, none), (⟨some 40, none, .ia 1 (.t 25) (.t 26)⟩, none), (⟨none, none, .st 1 (.t 40) (.t 39)⟩, some [])]) (.rg [⟨some 41, none, .mv (.t 1)⟩, ⟨some 42, none, .mv (.t 6)⟩, ⟨some 43, none, .mv (.t 8)⟩, ⟨some 44, none, .ia 1 (.t 42) (.t 43)⟩, ⟨some 45, none, .ld 1 false (.t 44)⟩, ⟨some 46, none, .bin .sub .leaf (.t 41) (.t 45)⟩, ⟨some 1, none, .mv (.t 46)⟩])))) (.rg [⟨some 47, none, .bin .add .leaf (.t 21) (.k (.int .i64 1))⟩, ⟨some 21, none, .mv (.t 47)⟩]))))))) (.seq (.seq (.rg [⟨some 48, none, .mv (.t 1)⟩, ⟨some 49, none, .bin .gtr .leaf (.t 48) (.k (.int .i64 0))⟩]) (.cond (.t 49) (.seq (.rg [⟨some 4, none, .mv (.k .nilsl)⟩, ⟨some 5, none, .mv (.k (.int .i64 9))⟩]) .ret) .skip)) (.seq (.rg [⟨some 50, none, .mv (.t 6)⟩, ⟨some 4, none, .mv (.t 50)⟩, ⟨some 5, none, .mv (.k (.int .i64 0))⟩]) .ret)))))⟩ := by kernel_rfl

def Iv.room (x : Iv) : Int := x.op + x.pd
theorem room_bd {x : Iv} (h : x.ok) : 0 ≤ x.room ∧ x.room ≤ 4611686018427387903 := by
  rw [Iv.room, op_ok h]
  have := h.2
  omega
def rooms (l : List Iv) (p : List Nat) : Int := (p.map fun i => l[i]!.room).sum
/-- what the later ones take -/
def ahd (l : List Iv) (i : Nat) : Int := rooms l ((List.range l.length).filter fun k => decide (later l k i))
def outI (l : List Iv) (n : Int) (i : Nat) : Int := min (max 0 (n - ahd l i)) l[i]!.room
def outs (l : List Iv) (n : Int) : List Int := (List.range l.length).map (outI l n)
def total (l : List Iv) : Int := rooms l (List.range l.length)
theorem sum_perm {a b : List Int} (h : a.Perm b) : a.sum = b.sum := by
  induction h with
  | nil => rfl
  | cons x _ ih => simp only [List.sum_cons, ih]
  | swap x y l => simp only [List.sum_cons]; omega
  | trans _ _ h1 h2 => rw [h1, h2]
theorem rooms_perm {l : List Iv} {p q : List Nat} (h : p.Perm q) : rooms l p = rooms l q := sum_perm (h.map _)
theorem rooms_snoc (l : List Iv) (p : List Nat) (i : Nat) : rooms l (p ++ [i]) = rooms l p + l[i]!.room := by simp [rooms]
theorem rooms_nn {l : List Iv} (hok : ∀ x ∈ l, x.ok) : ∀ {p : List Nat}, (∀ i ∈ p, i < l.length) → 0 ≤ rooms l p
  | [], _ => by simp [rooms]
  | i :: p, h => by
    have h1 := room_bd (hok _ (mem_at (h i (by simp))))
    have h2 := rooms_nn hok (p := p) fun k hk => h k (by simp [hk])
    simp only [rooms, List.map_cons, List.sum_cons] at h2 ⊢
    omega
theorem ord_ahd {l : List Iv} {o p q : List Nat} {i : Nat} (h : Ord l o) (ho : o = p ++ i :: q) : rooms l p = ahd l i := by
  have hst := h.st
  rw [ho, List.pairwise_append, List.pairwise_cons] at hst
  have hf : o.filter (fun k => decide (later l k i)) = p := by
    rw [ho, List.filter_append, List.filter_cons, if_neg (by simpa using later_irrefl l i)]
    have h1 : p.filter (fun k => decide (later l k i)) = p := List.filter_eq_self.2 fun k hk => decide_eq_true (hst.2.2 k hk i (by simp))
    have h2 : q.filter (fun k => decide (later l k i)) = [] := List.filter_eq_nil_iff.2 fun k hk => by
      have := hst.2.1.1 k hk
      simp only [decide_eq_true_eq]
      exact fun hh => later_irrefl l i (later_trans this hh)
    rw [h1, h2, List.append_nil]
  rw [ahd, ← hf]
  exact rooms_perm (h.perm.filter _)
def cellsI (c : List Int) : List D := c.map fun n => .int .i64 n
theorem setC_cells (c : List Int) (i : Nat) (v : Int) (h : i < c.length) : setC (cellsI c) i [.int .i64 v] = cellsI (c.set i v) := by
  simp only [setC, cellsI, List.map_set, List.length_singleton]
  rw [List.set_eq_take_append_cons_drop]
  simp [h]
theorem rdC_cells (c : List Int) (i : Nat) (h : i < c.length) : rdC (cellsI c) i 1 false = some (.int .i64 c[i]!) := by
  simp only [rdC, cellsI]
  simp [h]
theorem chunks_cells : ∀ (c : List Int), chunks 1 c.length (cellsI c) = i64s c
  | [] => rfl
  | a :: c => by
    have := chunks_cells c
    simp only [cellsI, i64s] at this
    simp only [List.length_cons, chunks, cellsI, i64s, List.map_cons, List.take_succ_cons, List.take_zero, List.drop_succ_cons, List.drop_zero, this]
structure SpS where
  j : Nat
  n : Int
  c : List Int
def spreadD (l : List Iv) (n : Int) : D := if 1 ≤ n ∧ ∀ x ∈ l, x.ok then (if total l < n then .tup [.nilsl, .int .i64 9] else .tup [.sl (i64s (outs l n)), .int .i64 0]) else .tup [.nilsl, .int .i64 2]
/-- an answer in an array of the walk's own is held fast -/
theorem ffinF {E : Env} {n0 m0 : Nat} {S J : List O} {T TK : Tks} {d d' : D} {k : Nat} {cs : List D} {Post : D → List O → Tks → Prop} (hn : S.length = n0) (hm : T.length = m0) (hS : OSc n0 m0 S) (hJ : J[k]? = some (.arr cs)) (hf : Frz (n0 + k) cs d d') (hsc : d'.sc n0 m0 = true) (hp : Post d' S T) : FFin E n0 m0 S J T TK d Post := by
  refine ⟨d', _, _, ?_, hp⟩
  have h1 := Shift.freeze (E := E) (n0 := n0) (m0 := m0) (fr := [(0, d)]) (fr' := [(0, d')]) (S := S ++ J) (tk := T ++ TK) (at_own hn hJ) (t := 0) (d' := d') hf ⟨by simp [KL.get]; exact Sub.refl _, trivial⟩
  rw [set_own hn] at h1
  refine h1.trans ?_
  exact Shift.drop ⟨by simp [KL.get]; exact Sub.refl _, trivial⟩ (Nat.le_of_eq hn.symm) (Nat.le_of_eq hm.symm) (by rw [hn, hm]; simp [frSc, hsc]) (by rw [hn, hm]; exact hS)
theorem scl_i64s (n m : Nat) : ∀ l : List Int, scLL n m (i64s l) = true := scL_i64s n m
structure SpS.P (l : List Iv) (n : Int) (o : List Nat) (s : SpS) : Prop where
  j : s.j ≤ o.length
  lf : s.n = max 0 (n - rooms l (o.take s.j))
  len : s.c.length = l.length
  at' : ∀ i ∈ o.take s.j, s.c[i]! = outI l n i
theorem SpS.P.step {l : List Iv} {n : Int} {o : List Nat} {s : SpS} (h : s.P l n o) (ho : Ord l o) (hok : ∀ x ∈ l, x.ok) (hn : 1 ≤ n) (hj : s.j < o.length) : o[s.j]! < l.length ∧ min s.n l[o[s.j]!]!.room = outI l n o[s.j]! ∧ SpS.P l n o ⟨s.j + 1, s.n - outI l n o[s.j]!, s.c.set o[s.j]! (outI l n o[s.j]!)⟩ ∧ 0 ≤ outI l n o[s.j]! ∧ outI l n o[s.j]! ≤ s.n ∧ s.n ≤ n := by
  have hmem : o[s.j]! ∈ o := mem_at hj
  have hlt : o[s.j]! < l.length := List.mem_range.1 (ho.perm.mem_iff.1 hmem)
  have hsplit : o = o.take s.j ++ o[s.j]! :: o.drop (s.j + 1) := by
    rw [getElem!_pos o s.j hj, ← List.drop_eq_getElem_cons hj, List.take_append_drop]
  have ha := ord_ahd ho hsplit
  have hr := room_bd (hok _ (mem_at hlt))
  have hA := rooms_nn hok (p := o.take s.j) fun i hi => List.mem_range.1 (ho.perm.mem_iff.1 (List.mem_of_mem_take hi))
  have hout : outI l n o[s.j]! = min s.n l[o[s.j]!]!.room := by rw [outI, h.lf, ha]
  have h1 := h.lf
  refine ⟨hlt, hout.symm, ⟨by simp only; omega, ?_, by simp [h.len], fun i hi => ?_⟩, by omega, by omega, by omega⟩
  · simp only
    rw [take_snA hj, rooms_snoc, hout, h1]
    omega
  · simp only at hi ⊢
    rw [take_snA hj, List.mem_append, List.mem_singleton] at hi
    have hnd : o.Nodup := ho.perm.nodup_iff.2 List.nodup_range
    rcases hi with hi | rfl
    · have hne : o[s.j]! ≠ i := fun e => by
        rw [hsplit, List.nodup_append] at hnd
        exact hnd.2.2 i hi o[s.j]! (by simp) e.symm
      have hil : i < l.length := List.mem_range.1 (ho.perm.mem_iff.1 (List.mem_of_mem_take hi))
      have := h.at' i hi
      rw [getElem!_pos s.c i (by rw [h.len]; exact hil)] at this
      rw [getElem!_pos _ i (by rw [List.length_set, h.len]; exact hil), List.getElem_set_ne hne, this]
    · rw [getElem!_pos _ _ (by rw [List.length_set, h.len]; exact hlt), List.getElem_set_self]
theorem SpS.P.fin {l : List Iv} {n : Int} {o : List Nat} {s : SpS} (h : s.P l n o) (ho : Ord l o) (hj : ¬ s.j < o.length) : s.n = max 0 (n - total l) ∧ s.c = outs l n := by
  have ht : o.take s.j = o := List.take_of_length_le (by omega)
  refine ⟨by rw [h.lf, ht, total, rooms_perm ho.perm], ?_⟩
  refine List.ext_getElem (by rw [h.len, outs]; simp) fun i h1 h2 => ?_
  have hi : i < l.length := by rw [← h.len]; exact h1
  have := h.at' i (by rw [ht]; exact ho.perm.mem_iff.2 (List.mem_range.2 hi))
  rw [getElem!_pos s.c i h1] at this
  rw [this]; simp [outs]
theorem flat_zero (n : Nat) : (List.replicate n [D.int .i64 0]).flatten = cellsI (List.replicate n 0) := by
  induction n with
  | zero => rfl
  | succ n ih => rw [List.replicate_succ, List.flatten_cons, ih]; rfl
theorem gk_mksl {E : Env} {n0 m0 : Nat} {fr : Fr} {S J : List O} {T TK : Tks} {e : TypeId} {sz bytes : Nat} {zs : List D} {x y : Opd} {n : Nat} {K : FD → List O → List O → Tks → Tks → Prop} (hn : S.length = n0) (hm : T.length = m0) (hx : fev E fr x = .d (.int .i64 (n : Int))) (hy : fev E fr y = .d (.int .i64 (n : Int)))
    (hb : n ≤ 4611686018427387904 ∧ n * bytes ≤ 140737488355328) (hk : K (.d (.osl (n0 + J.length) 0 n sz)) S (J ++ [.arr (List.replicate n zs).flatten]) T TK) : GK E n0 m0 (.mksl e sz bytes zs x y) fr S J T TK K := by
  refine ⟨?_⟩
  simp only [aop, ← fev_to (n := n0) x, ← fev_to (n := n0) y, hx, hy, FD.to]
  refine ⟨⟨by omega, trivial, by omega, by simpa using hb.2⟩, S, J ++ [_], T, TK, by rw [List.append_assoc, Int.toNat_natCast], rfl, hn, hm, ?_⟩
  rw [List.length_append, hn]
  simp only [Int.toNat_natCast]
  exact (fzD_eq _ _).2 hk
theorem iaD_nat {l : List Nat} {i : Nat} {n : Int} (h : n = i) (hi : i < l.length) : iaD 1 (.sl (nats l)) (.int .i64 n) = some (.pe [.int .i64 (l[i]! : Nat)] 0) := by
  subst h
  exact iaD_map (f := fun n : Nat => [.int .i64 ((n : Nat) : Int)]) (by omega) (by rw [Int.toNat_natCast, List.getElem?_eq_getElem hi, getElem!_pos l i hi]) rfl
theorem iaD_osl {id m i : Nat} (hi : i < m) : iaD 1 (.osl id 0 m 1) (.int .i64 (i : Int)) = some (.po id (0 + i * 1)) := by
  simp [iaD, hi]
set_option maxHeartbeats 2000000 in
theorem Spread (l : List Iv) (hl : l.length < 1099511620000) (hx : ∀ x ∈ l, x.R) (n : Int) (hn : I64 n) : Pure 23 [.sl (ivs l), .int .i64 n] (spreadD l n) := by
  intro S tk
  have hlen := ivs_len l
  have hcf := containsF l (by omega) hx
  by_cases h1 : 1 ≤ n
  · by_cases hok : ∀ x ∈ l, x.ok
    · rw [spreadD, if_pos ⟨h1, hok⟩]
      rw [decide_eq_false (fun ⟨x, hxl, hb⟩ => hb (hok x hxl))] at hcf
      have hord := ordered l hl hok
      refine ACalls.fgo c23 rfl fun hS => ?_
      repeat' first | with_reducible refine fzD_ite (fun q => ?_) (fun q => ?_) | ((try conv => whnf); first
        | refine bs_f (decide_eq_false (show ¬ n < 1 by omega)) ?_
        | refine bs_d (fun q => ?_) (fun q => ?_)
        | refine bs_n ?_
        | refine bs_i (fun q => ?_) (fun q => ?_)
        | refine ck (by first | rfl | simp) rfl (hcf) ?_
        | refine cq (hcf) ?_
        | (refine gk_mksl (n := l.length) rfl rfl (by rw [← hlen]; rfl) (by rw [← hlen]; rfl) (by omega) ?_; rw [flat_zero])
        | (refine ckE rfl rfl hord (SubL.refl _) ?_; rintro r ⟨o, ho, rfl⟩; skip)
        | refine eqk rfl ?_
        | refine ffin _ rfl rfl hS (Sub.refl _) rfl ⟨?_, rfl, rfl⟩)
      have hol : o.length = l.length := by rw [ho.perm.length_eq, List.length_range]
      have hnl := nats_len o
      refine floopS (α := SpS) rfl (fun s => s.P l n o) (fun s => o.length - s.j) (fun s => [(21, .d (.int .i64 s.j)), (20, .d (.int .i64 o.length)), (19, .d (.sl (nats o))), (6, .d (.osl (S.length + 0) 0 l.length 1)), (1, .d (.int .i64 s.n)), (0, .d (.sl (ivs l)))])
        (fun _ => S) (fun s => [.arr (cellsI s.c)]) (fun _ => []) (fun _ _ => ⟨rfl, hS⟩) ⟨0, n, List.replicate l.length 0⟩ ⟨Nat.zero_le _, by simp [rooms]; omega, by simp, by simp⟩ rfl (fstep_sub ⟨Sub.refl _, Sub.int (by rw [hnl]), Sub.refl _, Sub.refl _, Sub.refl _, Sub.refl _, trivial⟩) ?_
      rintro s hs
      by_cases hj : s.j < o.length
      · obtain ⟨k1, k2, k3, k4, k5, k6⟩ := hs.step ho hok h1 hj
        have hop := Open l[o[s.j]!]! (hx _ (mem_at k1))
        have hr := room_bd (hok _ (mem_at k1))
        have hw : IntKind.wrap .i64 (l[o[s.j]!]!.op + l[o[s.j]!]!.pd) = l[o[s.j]!]!.room := wi64_id (by unfold Iv.room at hr; unfold I64; omega)
        have hi0 : 0 + o[s.j]! * 1 = o[s.j]! := by omega
        obtain ⟨v, hv⟩ : ∃ v, v = outI l n o[s.j]! := ⟨_, rfl⟩
        rw [← hv] at k2 k3 k4 k5
        have hsz : 0 + o[s.j]! * 1 + 1 ≤ (cellsI s.c).length := by rw [cellsI, List.length_map, hs.len]; omega
        have hws : IntKind.wrap .i64 (s.n - v) = s.n - v := wi64_id (by unfold I64 at hn ⊢; omega)
        have hset : setC (cellsI s.c) (0 + o[s.j]! * 1) (D.int .i64 v).cs = cellsI (s.c.set o[s.j]! v) := by rw [hi0]; exact setC_cells _ _ _ (by rw [hs.len]; exact k1)
        have hrd : rdC (cellsI (s.c.set o[s.j]! v)) (0 + o[s.j]! * 1) 1 false = some (.int .i64 v) := by
          rw [hi0, rdC_cells _ _ (by rw [List.length_set, hs.len]; exact k1), getElem!_pos _ _ (by rw [List.length_set, hs.len]; exact k1), List.getElem_set_self]
        repeat' first | with_reducible refine fzD_ite (fun q => ?_) (fun q => ?_) | ((try conv => whnf); first
          | refine bs_t (decide_eq_true (by omega)) ?_
          | refine bs_d (fun q => ?_) (fun q => ?_)
          | refine bs_n ?_
          | refine bs_i (fun q => ?_) (fun q => ?_)
          | refine pK_i (iaD_nat (i := s.j) rfl hj) ?_
          | refine pK_i (iaD_iv (i := o[s.j]!) rfl k1) ?_
          | refine ck (by first | rfl | simp) rfl (hop) ?_
          | refine cq (hop) ?_
          | refine pK_i (iaD_osl k1) ?_
          | (refine gk_stpo_own (k := 0) (d := .int .i64 v) rfl rfl (by rfl) (by rfl) (congrArg (D.int .i64) (by rw [hw]; exact k2)) ⟨rfl, rfl, rfl, hsz⟩ ?_; rw [hset])
          | refine pK_i (ldO_own (k := 0) rfl (by rfl) hrd) ?_
          | refine eqk rfl ?_
          | refine ffin _ rfl rfl hS (Sub.refl _) rfl ⟨?_, rfl, rfl⟩)
        conv => whnf
        exact fnextS (α := SpS) ⟨s.j + 1, s.n - v, s.c.set o[s.j]! v⟩ k3 (by simp only; omega) rfl (fstep_sub ⟨Sub.int (by first | rfl | omega | (refine Int.sub_eq_zero.mp ?_; simp (disch := ((try unfold I64); omega)) only [wi64_id, td]; omega)), Sub.refl _, Sub.refl _, Sub.refl _, Sub.int hws, Sub.refl _, trivial⟩)
      · obtain ⟨e1, e2⟩ := hs.fin ho hj
        by_cases ht : total l < n
        · rw [if_pos ht]
          repeat' first | with_reducible refine fzD_ite (fun q => ?_) (fun q => ?_) | ((try conv => whnf); first
            | refine bs_f (decide_eq_false (by omega)) ?_
            | refine bs_t (decide_eq_true (by omega)) ?_
            | refine bs_d (fun q => ?_) (fun q => ?_)
            | refine bs_n ?_
            | refine bs_i (fun q => ?_) (fun q => ?_)
            | refine eqk rfl ?_
            | refine ffin _ rfl rfl hS (Sub.refl _) rfl ⟨?_, rfl, rfl⟩)
          all_goals rfl
        · rw [if_neg ht]
          have hch : chunks 1 l.length ((cellsI s.c).drop 0) = i64s (outs l n) := by rw [List.drop_zero, ← hs.len, chunks_cells, e2]
          have hfz : Frz (S.length + 0) (cellsI s.c) (.tup [.osl (S.length + 0) 0 l.length 1, .int .i64 0]) (.tup [.sl (i64s (outs l n)), .int .i64 0]) := by
            refine .tup rfl fun j d d' h1 h2 => ?_
            match j with
            | 0 =>
              simp at h1 h2; subst h1; subst h2
              rw [← hch]
              exact .osl 0 l.length 1 (by rw [cellsI, List.length_map, hs.len]; omega)
            | 1 => simp at h1 h2; subst h1; subst h2; exact .refl _
            | j + 2 => simp at h1
          repeat' first | with_reducible refine fzD_ite (fun q => ?_) (fun q => ?_) | ((try conv => whnf); first
            | refine bs_f (decide_eq_false (by omega)) ?_
            | refine bs_d (fun q => ?_) (fun q => ?_)
            | refine bs_n ?_
            | refine bs_i (fun q => ?_) (fun q => ?_)
            | refine ffinF (k := 0) rfl rfl hS (by rfl) hfz (by simp [D.sc, scL, scL_i64s]) ⟨rfl, rfl, rfl⟩
            | refine eqk rfl ?_
            | refine ffin _ rfl rfl hS (Sub.refl _) rfl ⟨?_, rfl, rfl⟩)
    · rw [spreadD, if_neg (fun h => hok h.2)]
      have hb : ∃ x ∈ l, ¬ x.ok := by simpa using hok
      rw [decide_eq_true hb] at hcf
      refine ACalls.fgo c23 rfl fun hS => ?_
      repeat' first | with_reducible refine fzD_ite (fun q => ?_) (fun q => ?_) | ((try conv => whnf); first
        | refine bs_f (decide_eq_false (show ¬ n < 1 by omega)) ?_
        | refine bs_d (fun q => ?_) (fun q => ?_)
        | refine bs_n ?_
        | refine bs_i (fun q => ?_) (fun q => ?_)
        | refine ck (by first | rfl | simp) rfl (hcf) ?_
        | refine cq (hcf) ?_
        | refine eqk rfl ?_
        | refine ffin _ rfl rfl hS (Sub.refl _) rfl ⟨?_, rfl, rfl⟩)
      all_goals rfl
  · rw [spreadD, if_neg (fun h => h1 h.1)]
    refine ACalls.fgo c23 rfl fun hS => ?_
    repeat' first | with_reducible refine fzD_ite (fun q => ?_) (fun q => ?_) | ((try conv => whnf); first
      | refine bs_t (decide_eq_true (show n < 1 by omega)) ?_
      | refine bs_d (fun q => ?_) (fun q => ?_)
      | refine bs_n ?_
      | refine bs_i (fun q => ?_) (fun q => ?_)
      | refine eqk rfl ?_
      | refine ffin _ rfl rfl hS (Sub.refl _) rfl ⟨?_, rfl, rfl⟩)
    all_goals rfl
end Go.KL.Ytgdidchpignbpaa

/- the head of chapter 25's laws -/
set_option linter.unusedVariables false
set_option linter.unusedSimpArgs false
set_option linter.unusedSectionVars false
set_option maxRecDepth 4000
namespace Go.KL.Ytgdidchpignbpaa
open Go Go.KL Go.RowKit Go.Proofs

theorem c15 : cFun E0.P 15 = some ⟨106, [(0, none)], .seq (.rg [⟨some 0, none, .mv (.k (.bool false))⟩]) (.seq (.rg [⟨some 15, none, .build [.int .u64 0, .int .u64 0, .int .u64 0, .int .i64 0, .int .i64 0, .int .i64 0, .int .i64 0, .int .i64 0, .int .i64 0, .int .i64 0, .int .i64 0] [(0, 1, .k (.int .u64 1)), (1, 1, .k (.int .u64 7)), (2, 1, .k (.int .u64 3)), (3, 1, .k (.int .i64 10)), (4, 1, .k (.int .i64 40)), (5, 1, .k (.int .i64 10)), (6, 1, .k (.int .i64 41)), (7, 1, .k (.int .i64 100))]⟩, ⟨some 1, none, .alloc [.int .u64 0, .int .u64 0, .int .u64 0, .int .i64 0, .int .i64 0, .int .i64 0, .int .i64 0, .int .i64 0, .int .i64 0, .int .i64 0, .int .i64 0] 26⟩, ⟨none, none, .st 11 (.t 1) (.t 15)⟩]) (.seq (.rg [⟨some 16, none, .build [.int .u64 0, .int .u64 0, .int .i64 0, .int .i64 0, .str ⟨#[]⟩] [(0, 1, .k (.int .u64 1)), (1, 1, .k (.int .u64 1)), (2, 1, .k (.int .i64 20)), (3, 1, .k (.int .i64 60))]⟩, ⟨some 2, none, .alloc [.int .u64 0, .int .u64 0, .int .i64 0, .int .i64 0, .str ⟨#[]⟩] 24⟩, ⟨none, none, .st 5 (.t 2) (.t 16)⟩]) (.seq (.rg [⟨some 18, none, .ld 11 true (.t 1)⟩, ⟨some 19, none, .call 16 [.t 18]⟩, ⟨some 17, none, .mv (.t 19)⟩, ⟨some 20, none, .ext 0 (.t 17)⟩, ⟨some 21, none, .ext 1 (.t 17)⟩, ⟨some 3, none, .alloc [.int .i64 0, .int .u8 0, .int .u64 0, .nilsl] 32⟩, ⟨none, none, .st 4 (.t 3) (.t 20)⟩, ⟨some 4, none, .mv (.t 21)⟩]) (.seq (.rg [⟨some 23, none, .ld 5 true (.t 2)⟩, ⟨some 24, none, .ld 11 true (.t 1)⟩, ⟨some 25, none, .call 18 [.t 23, .t 24, .k (.int .i64 50)]⟩, ⟨some 22, none, .mv (.t 25)⟩, ⟨some 26, none, .ext 0 (.t 22)⟩, ⟨some 27, none, .ext 1 (.t 22)⟩, ⟨some 28, none, .ext 2 (.t 22)⟩, ⟨some 5, none, .alloc [.int .u64 0, .int .u64 0, .int .u64 0, .int .i64 0, .int .i64 0, .int .i64 0, .int .i64 0, .int .i64 0, .int .i64 0, .int .i64 0, .int .i64 0] 26⟩, ⟨some 6, none, .alloc [.int .i64 0, .int .u8 0, .int .u64 0, .nilsl] 32⟩, ⟨none, none, .st 11 (.t 5) (.t 26)⟩, ⟨none, none, .st 4 (.t 6) (.t 27)⟩, ⟨some 7, none, .mv (.t 28)⟩]) (.seq (.rg [⟨some 29, none, .ld 11 true (.t 1)⟩, ⟨some 8, none, .alloc [.int .u64 0, .int .u64 0, .int .u64 0, .int .i64 0, .int .i64 0, .int .i64 0, .int .i64 0, .int .i64 0, .int .i64 0, .int .i64 0, .int .i64 0] 26⟩, ⟨none, none, .st 11 (.t 8) (.t 29)⟩]) (.seq (.rg [⟨some 30, none, .fa 9 (.t 8)⟩, ⟨none, none, .st 1 (.t 30) (.k (.int .i64 80))⟩]) (.seq (.rg [⟨some 32, none, .ld 5 true (.t 2)⟩, ⟨some 33, none, .ld 11 true (.t 8)⟩, ⟨some 34, none, .call 18 [.t 32, .t 33, .k (.int .i64 0)]⟩, ⟨some 31, none, .mv (.t 34)⟩, ⟨some 35, none, .ext 0 (.t 31)⟩, ⟨some 36, none, .ext 1 (.t 31)⟩, ⟨some 37, none, .ext 2 (.t 31)⟩, ⟨some 9, none, .alloc [.int .u64 0, .int .u64 0, .int .u64 0, .int .i64 0, .int .i64 0, .int .i64 0, .int .i64 0, .int .i64 0, .int .i64 0, .int .i64 0, .int .i64 0] 26⟩, ⟨some 10, none, .alloc [.int .i64 0, .int .u8 0, .int .u64 0, .nilsl] 32⟩, ⟨none, none, .st 11 (.t 9) (.t 35)⟩, ⟨none, none, .st 4 (.t 10) (.t 36)⟩, ⟨some 11, none, .mv (.t 37)⟩]) (.seq (.rg [⟨some 38, none, .build [.int .u64 0, .int .u64 0, .int .u64 0, .int .i64 0, .int .i64 0, .int .i64 0, .int .i64 0, .int .i64 0, .int .i64 0, .int .i64 0, .int .i64 0] [(0, 1, .k (.int .u64 2)), (1, 1, .k (.int .u64 7)), (3, 1, .k (.int .i64 11)), (4, 1, .k (.int .i64 41)), (5, 1, .k (.int .i64 10)), (6, 1, .k (.int .i64 41)), (7, 1, .k (.int .i64 30))]⟩, ⟨some 12, none, .alloc [.int .u64 0, .int .u64 0, .int .u64 0, .int .i64 0, .int .i64 0, .int .i64 0, .int .i64 0, .int .i64 0, .int .i64 0, .int .i64 0, .int .i64 0] 26⟩, ⟨none, none, .st 11 (.t 12) (.t 38)⟩]) (.seq (.rg [⟨some 40, none, .ld 11 true (.t 1)⟩, ⟨some 41, none, .ld 11 true (.t 12)⟩, ⟨some 42, none, .buildS 2 11 [.int .u64 0, .int .u64 0, .int .u64 0, .int .i64 0, .int .i64 0, .int .i64 0, .int .i64 0, .int .i64 0, .int .i64 0, .int .i64 0, .int .i64 0] [(0, .t 40), (1, .t 41)] 26⟩, ⟨some 43, none, .call 23 [.t 42, .k (.int .i64 50)]⟩, ⟨some 39, none, .mv (.t 43)⟩, ⟨some 44, none, .ext 0 (.t 39)⟩, ⟨some 45, none, .ext 1 (.t 39)⟩, ⟨some 13, none, .mv (.t 44)⟩, ⟨some 14, none, .mv (.t 45)⟩]) (.seq (.rd [(⟨some 46, none, .fa 3 (.t 3)⟩, none), (⟨some 47, none, .ld 1 false (.t 46)⟩, none), (⟨some 48, none, .call 71 [.k (.int .i64 1200), .k (.int .i64 100)]⟩, none), (⟨some 49, none, .call 71 [.k (.int .i64 2100), .k (.int .i64 (-100))]⟩, none), (⟨some 50, none, .buildS 2 4 [.int .i64 0, .int .u64 0, .int .u64 0, .int .i64 0] [(0, .t 48), (1, .t 49)] 88⟩, none), (⟨some 51, none, .call 41 [.t 47, .t 50]⟩, some []), (⟨some 52, none, .mv (.t 51)⟩, none), (⟨some 53, some (52, true), .fa 0 (.t 3)⟩, none), (⟨some 54, some (52, true), .ld 1 false (.t 53)⟩, none), (⟨some 55, some (52, true), .bin .eql .leaf (.t 54) (.k (.int .i64 10))⟩, none), (⟨some 56, none, .pick (.t 52) (.t 55) (.k (.bool false))⟩, none), (⟨some 57, none, .mv (.t 56)⟩, none), (⟨some 58, some (57, true), .mv (.t 4)⟩, none), (⟨some 59, some (57, true), .bin .eql .leaf (.t 58) (.k (.int .i64 0))⟩, none), (⟨some 60, none, .pick (.t 57) (.t 59) (.k (.bool false))⟩, none), (⟨some 61, none, .mv (.t 60)⟩, none), (⟨some 62, some (61, true), .fa 8 (.t 5)⟩, none), (⟨some 63, some (61, true), .ld 1 false (.t 62)⟩, none), (⟨some 64, some (61, true), .bin .eql .leaf (.t 63) (.k (.int .i64 60))⟩, none), (⟨some 65, none, .pick (.t 61) (.t 64) (.k (.bool false))⟩, none), (⟨some 66, none, .mv (.t 65)⟩, none), (⟨some 67, some (66, true), .fa 3 (.t 6)⟩, none), (⟨some 68, some (66, true), .ld 1 false (.t 67)⟩, none), (⟨some 69, some (66, true), .call 71 [.k (.int .i64 1200), .k (.int .i64 (-60))]⟩, none), (⟨some 70, some (66, true), .call 71 [.k (.int .i64 2100), .k (.int .i64 50)]⟩, none), (⟨some 71, some (66, true), .call 71 [.k (.int .i64 3100), .k (.int .i64 10)]⟩, none), (⟨some 72, some (66, true), .buildS 3 4 [.int .i64 0, .int .u64 0, .int .u64 0, .int .i64 0] [(0, .t 69), (1, .t 70), (2, .t 71)] 88⟩, none), (⟨some 73, some (66, true), .call 41 [.t 68, .t 72]⟩, some []), (⟨some 74, none, .pick (.t 66) (.t 73) (.k (.bool false))⟩, none), (⟨some 75, none, .mv (.t 74)⟩, none), (⟨some 76, some (75, true), .mv (.t 7)⟩, none), (⟨some 77, some (75, true), .bin .eql .leaf (.t 76) (.k (.int .i64 0))⟩, none), (⟨some 78, none, .pick (.t 75) (.t 77) (.k (.bool false))⟩, none), (⟨some 79, none, .mv (.t 78)⟩, none), (⟨some 80, some (79, true), .fa 9 (.t 9)⟩, none), (⟨some 81, some (79, true), .ld 1 false (.t 80)⟩, none), (⟨some 82, some (79, true), .bin .eql .leaf (.t 81) (.k (.int .i64 40))⟩, none), (⟨some 83, none, .pick (.t 79) (.t 82) (.k (.bool false))⟩, none), (⟨some 84, none, .mv (.t 83)⟩, none), (⟨some 85, some (84, true), .fa 3 (.t 10)⟩, none), (⟨some 86, some (84, true), .ld 1 false (.t 85)⟩, none), (⟨some 87, some (84, true), .call 71 [.k (.int .i64 1200), .k (.int .i64 (-20))]⟩, none), (⟨some 88, some (84, true), .build [.int .i64 0, .int .u64 0, .int .u64 0, .int .i64 0] [(0, 1, .k (.int .i64 2200)), (1, 1, .k (.int .u64 7)), (3, 1, .k (.int .i64 (-40)))]⟩, none), (⟨some 89, some (84, true), .call 71 [.k (.int .i64 3100), .k (.int .i64 60)]⟩, none), (⟨some 90, some (84, true), .buildS 3 4 [.int .i64 0, .int .u64 0, .int .u64 0, .int .i64 0] [(0, .t 87), (1, .t 88), (2, .t 89)] 88⟩, none), (⟨some 91, some (84, true), .call 41 [.t 86, .t 90]⟩, some []), (⟨some 92, none, .pick (.t 84) (.t 91) (.k (.bool false))⟩, none), (⟨some 93, none, .mv (.t 92)⟩, none), (⟨some 94, some (93, true), .mv (.t 11)⟩, none), (⟨some 95, some (93, true), .bin .eql .leaf (.t 94) (.k (.int .i64 0))⟩, none), (⟨some 96, none, .pick (.t 93) (.t 95) (.k (.bool false))⟩, none), (⟨some 97, none, .mv (.t 96)⟩, none), (⟨some 98, some (97, true), .mv (.t 13)⟩, none), (⟨some 99, some (97, true), .buildS 2 1 [.int .i64 0] [(0, .k (.int .i64 20)), (1, .k (.int .i64 30))] 2⟩, none), (⟨some 100, some (97, true), .call 25 [.t 98, .t 99]⟩, some []), (⟨some 101, none, .pick (.t 97) (.t 100) (.k (.bool false))⟩, none), (⟨some 102, none, .mv (.t 101)⟩, none), (⟨some 103, some (102, true), .mv (.t 14)⟩, none), (⟨some 104, some (102, true), .bin .eql .leaf (.t 103) (.k (.int .i64 0))⟩, none), (⟨some 105, none, .pick (.t 102) (.t 104) (.k (.bool false))⟩, none), (⟨some 0, none, .mv (.t 105)⟩, none)]) .ret))))))))))⟩ := by kernel_rfl

def x0 : Iv := ⟨1, 7, 3, 10, 40, 10, 41, 100, 0, 0, 0⟩
def x1 : Iv := ⟨1, 7, 3, 10, 40, 10, 41, 100, 0, 80, 0⟩
def y0 : Iv := ⟨2, 7, 0, 11, 41, 10, 41, 30, 0, 0, 0⟩
def n0 : Nn := ⟨1, 1, 20, 60, ⟨#[]⟩⟩
theorem x0R : x0.R := by constructor <;> simp only [x0] <;> first | (unfold U64; omega) | (unfold I64; omega)
theorem x1R : x1.R := by constructor <;> simp only [x1] <;> first | (unfold U64; omega) | (unfold I64; omega)
theorem y0R : y0.R := by constructor <;> simp only [y0] <;> first | (unfold U64; omega) | (unfold I64; omega)
theorem n0R : n0.R := by constructor <;> simp only [n0] <;> first | (unfold U64; omega) | (unfold I64; omega) | decide
abbrev bL : List Ln := [⟨1200, 7, 3, 100⟩, ⟨2100, 7, 3, -100⟩]
abbrev cL : List Ln := [⟨1200, 7, 3, -60⟩, ⟨2100, 7, 3, 50⟩, ⟨3100, 7, 3, 10⟩]
abbrev gL : List Ln := [⟨1200, 7, 3, -20⟩, ⟨2200, 7, 0, -40⟩, ⟨3100, 7, 3, 60⟩]
theorem hd1 : billD x0 = .tup [.agg [.int .i64 10, .int .u8 1, .int .u64 1, .sl (lns bL)], .int .i64 0] := by kernel_rfl
theorem hd2 : writeD n0 x0 50 = .tup [Iv.d ⟨1, 7, 3, 10, 40, 10, 41, 100, 60, 0, 0⟩, .agg [.int .i64 20, .int .u8 2, .int .u64 1, .sl (lns cL)], .int .i64 0] := by kernel_rfl
theorem hd3 : writeD n0 x1 0 = .tup [Iv.d ⟨1, 7, 3, 10, 40, 10, 41, 100, 60, 40, 0⟩, .agg [.int .i64 20, .int .u8 2, .int .u64 1, .sl (lns gL)], .int .i64 0] := by kernel_rfl
theorem hd4 : spreadD [x0, y0] 50 = .tup [.sl (i64s [20, 30]), .int .i64 0] := by kernel_rfl
theorem sameT (L : List Ln) (hl : L.length < 4611686018427387904) : Pure 41 [.sl (lns L), .sl (lns L)] (.bool true) := by
  have h := sameL L L hl hl
  rwa [decide_eq_true rfl] at h
theorem head : Pure 15 [] (.bool true) := by
  intro S tk
  have h1 := Bill x0 x0R
  have h2 := Write n0 n0R x0 x0R 50 (by unfold I64; omega)
  have h3 := Write n0 n0R x1 x1R 0 (by unfold I64; omega)
  have h4 := Spread [x0, y0] (by simp) (by intro x hx; simp only [List.mem_cons, List.not_mem_nil, or_false] at hx; rcases hx with rfl | rfl; exact x0R; exact y0R) 50 (by unfold I64; omega)
  rw [hd1] at h1
  rw [hd2] at h2
  rw [hd3] at h3
  rw [hd4] at h4
  have s1 := sameT bL (by simp)
  have s2 := sameT cL (by simp)
  have s3 := sameT gL (by simp)
  have s4 := sameI [20, 30] [20, 30] (by simp) (by simp)
  rw [decide_eq_true rfl] at s4
  refine ACalls.fgo c15 rfl fun hS => ?_
  repeat' first | with_reducible refine fzD_ite (fun q => ?_) (fun q => ?_) | ((try conv => whnf); first
    | refine bs_d (fun q => ?_) (fun q => ?_)
    | refine bs_n ?_
    | refine bs_i (fun q => ?_) (fun q => ?_)
    | refine ck (by first | rfl | simp) rfl (h1) ?_
    | refine cq (h1) ?_
    | refine ck (by first | rfl | simp) rfl (h2) ?_
    | refine cq (h2) ?_
    | refine ck (by first | rfl | simp) rfl (h3) ?_
    | refine cq (h3) ?_
    | refine ck (by first | rfl | simp) rfl (h4) ?_
    | refine cq (h4) ?_
    | refine ck (by first | rfl | simp) rfl (lineC _ _) ?_
    | refine cq (lineC _ _) ?_
    | refine ck (by first | rfl | simp) rfl (s1) ?_
    | refine cq (s1) ?_
    | refine ck (by first | rfl | simp) rfl (s2) ?_
    | refine cq (s2) ?_
    | refine ck (by first | rfl | simp) rfl (s3) ?_
    | refine cq (s3) ?_
    | refine ck (by first | rfl | simp) rfl (s4) ?_
    | refine cq (s4) ?_
    | refine eqk rfl ?_
    | refine ffin _ rfl rfl hS (Sub.refl _) rfl ⟨?_, rfl, rfl⟩)
  all_goals rfl
end Go.KL.Ytgdidchpignbpaa
