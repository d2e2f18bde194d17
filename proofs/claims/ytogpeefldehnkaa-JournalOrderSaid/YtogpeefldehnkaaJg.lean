/- the laws' head: contracts at the entry that is written there; entries, compared -/
import Derived.Test.YtogpeefldehnkaaJf
import Derived.Test.YtogpeefldehnkaaKL40
import Derived.Test.YtogpeefldehnkaaJa
import Derived.Test.YtogpeefldehnkaaKL29
import Derived.Test.YtogpeefldehnkaaRows
set_option linter.unusedVariables false
set_option linter.unusedSimpArgs false
set_option linter.unusedSectionVars false
set_option maxRecDepth 4000
namespace Go.KL.Ytogpeefldehnkaa.J
open Go Go.KL Go.RowKit Go.Proofs Go.KL.Ytogpeefldehnkaa

theorem c13 : cFun E0.P 13 = some ⟨26, [(4, none)], .seq (.rg [⟨some 4, none, .mv (.k (.bool false))⟩]) (.seq (.seq (.rg [⟨some 6, none, .mv (.t 0)⟩, ⟨some 7, none, .len 1 (.t 6)⟩, ⟨some 8, none, .mv (.t 1)⟩, ⟨some 9, none, .len 1 (.t 8)⟩, ⟨some 10, none, .bin .neq .leaf (.t 7) (.t 9)⟩]) (.cond (.t 10) (.seq (.rg [⟨some 4, none, .mv (.k (.bool false))⟩]) .ret) .skip)) (.seq (.seq (.rg [⟨some 5, none, .mv (.k (.int .i64 0))⟩]) (.block 0 (.loop (.seq (.seq (.rg [⟨some 11, none, .mv (.t 5)⟩, ⟨some 12, none, .mv (.t 0)⟩, ⟨some 13, none, .len 1 (.t 12)⟩, ⟨some 14, none, .bin .lss .leaf (.t 11) (.t 13)⟩]) (.cond (.t 14) .skip (.exit 0))) (.seq (.block 1 (.seq (.rd [(⟨some 17, none, .mv (.t 0)⟩, none), (⟨some 18, none, .mv (.t 5)⟩, none), (⟨some 19, none, .ia 4 (.t 17) (.t 18)⟩, none), (⟨some 20, none, .ld 4 true (.t 19)⟩, none), (⟨some 21, none, .mv (.t 1)⟩, none), (⟨some 22, none, .mv (.t 5)⟩, none), (⟨some 23, none, .ia 4 (.t 21) (.t 22)⟩, none), (⟨some 24, none, .ld 4 true (.t 23)⟩, none), (⟨some 25, none, .bin .neq (.agg [(0, .i), (1, .i), (2, .i), (3, .i)]) (.t 20) (.t 24)⟩, none)]) (.cond (.t 25) (.seq (.rg [⟨some 4, none, .mv (.k (.bool false))⟩]) .ret) .skip))) (.rg [⟨some 15, none, .mv (.t 5)⟩, ⟨some 16, none, .bin .add .leaf (.t 15) (.k (.int .i64 1))⟩, ⟨some 5, none, .mv (.t 16)⟩])))))) (.seq (.rg [⟨some 4, none, .mv (.k (.bool true))⟩]) .ret)))⟩ := by kernel_rfl
theorem c24 : cFun E0.P 24 = some ⟨31, [(4, none)], .seq (.rg [⟨some 2, none, .box (.t 0) 39⟩, ⟨some 3, none, .box (.t 1) 39⟩, ⟨some 4, none, .mv (.k (.bool false))⟩]) (.seq (.rg [⟨some 5, none, .fa 0 (.t 2)⟩, ⟨some 6, none, .ld 1 false (.t 5)⟩, ⟨some 7, none, .fa 0 (.t 3)⟩, ⟨some 8, none, .ld 1 false (.t 7)⟩, ⟨some 9, none, .bin .eql .leaf (.t 6) (.t 8)⟩, ⟨some 10, none, .mv (.t 9)⟩, ⟨some 11, some (10, true), .fa 1 (.t 2)⟩, ⟨some 12, some (10, true), .ld 1 false (.t 11)⟩, ⟨some 13, some (10, true), .fa 1 (.t 3)⟩, ⟨some 14, some (10, true), .ld 1 false (.t 13)⟩, ⟨some 15, some (10, true), .bin .eql .leaf (.t 12) (.t 14)⟩, ⟨some 16, none, .pick (.t 10) (.t 15) (.k (.bool false))⟩, ⟨some 17, none, .mv (.t 16)⟩, ⟨some 18, some (17, true), .fa 2 (.t 2)⟩, ⟨some 19, some (17, true), .ld 1 false (.t 18)⟩, ⟨some 20, some (17, true), .fa 2 (.t 3)⟩, ⟨some 21, some (17, true), .ld 1 false (.t 20)⟩, ⟨some 22, some (17, true), .bin .eql .leaf (.t 19) (.t 21)⟩, ⟨some 23, none, .pick (.t 17) (.t 22) (.k (.bool false))⟩, ⟨some 24, none, .mv (.t 23)⟩, ⟨some 25, some (24, true), .fa 3 (.t 2)⟩, ⟨some 26, some (24, true), .ld 1 false (.t 25)⟩, ⟨some 27, some (24, true), .fa 3 (.t 3)⟩, ⟨some 28, some (24, true), .ld 1 false (.t 27)⟩, ⟨some 29, some (24, true), .call 13 [.t 26, .t 28]⟩, ⟨some 30, none, .pick (.t 24) (.t 29) (.k (.bool false))⟩, ⟨some 4, none, .mv (.t 30)⟩]) .ret)⟩ := by kernel_rfl

theorem take_eq {α : Type} [Inhabited α] {a b : List α} {i : Nat} (ha : i < a.length) (hb : i < b.length) (h : a.take i = b.take i) (e : a[i]! = b[i]!) : a.take (i + 1) = b.take (i + 1) := by
  rw [take_snA ha, take_snA hb, h, e]
theorem ne_of_at {α : Type} [Inhabited α] {a b : List α} {i : Nat} (h : ¬ a[i]! = b[i]!) : ¬ a = b := fun e => h (by rw [e])
def lnEq (x y : Ln) : Bool := decide (x.acc = y.acc) && (decide (x.cus = y.cus) && (decide (x.con = y.con) && (decide (x.amt = y.amt) && true)))
theorem ln_t {x y : Ln} (h : lnEq x y = true) : x = y := by
  simp only [lnEq, Bool.and_true, Bool.and_eq_true, decide_eq_true_eq] at h
  cases x; cases y
  simp_all
theorem ln_f {x y : Ln} (h : lnEq x y = false) : ¬ x = y := fun e => by subst e; simp [lnEq] at h
set_option maxHeartbeats 1000000 in
theorem sameL (a b : List Ln) (ha : a.length < 4611686018427387904) (hb : b.length < 4611686018427387904) : Pure 13 [.sl (lns a), .sl (lns b)] (.bool (decide (a = b))) := by
  intro S tk
  have la := lns_len a
  have lb := lns_len b
  refine ACalls.fgo c13 rfl fun hS => ?_
  repeat' first | with_reducible refine fzD_ite (fun q => ?_) (fun q => ?_) | ((try conv => whnf); first
    | refine bs_d (fun q => ?_) (fun q => ?_)
    | refine bs_n ?_
    | refine bs_i (fun q => ?_) (fun q => ?_)
    | refine eqk rfl ?_
    | refine ffin _ rfl rfl hS (Sub.refl _) rfl ⟨?_, rfl, rfl⟩)
  rotate_left
  · exact congrArg D.bool (decide_eq_false (fun e => by subst e; omega)).symm
  conv => whnf
  have hl : a.length = b.length := by omega
  refine floop (α := Nat) rfl rfl hS (fun i => i ≤ a.length ∧ a.take i = b.take i) (fun i => a.length - i) (fun i => [(5, .d (.int .i64 i)), (0, .d (.sl (lns a))), (1, .d (.sl (lns b)))]) (fun _ => []) (fun _ => []) 0 ⟨Nat.zero_le _, rfl⟩ (fstep_sub ⟨Sub.refl _, Sub.refl _, Sub.refl _, trivial⟩) ?_
  rintro i ⟨h1, h2⟩
  repeat' first | with_reducible refine fzD_ite (fun q => ?_) (fun q => ?_) | ((try conv => whnf); first
    | refine bs_d (fun q => ?_) (fun q => ?_) <;> (try simp (disch := ((try unfold I64); omega)) only [wi64_id, td] at q)
    | refine bs_n ?_
    | refine bs_i (fun q => ?_) (fun q => ?_)
    | refine pK_i (iaD_ln (i := i) (by first | rfl | omega | (refine Int.sub_eq_zero.mp ?_; simp (disch := ((try unfold I64); omega)) only [wi64_id, td]; omega)) (by omega)) ?_
    | refine eqk rfl ?_
    | refine ffin _ rfl rfl hS (Sub.refl _) rfl ⟨?_, rfl, rfl⟩)
  · conv => whnf
    refine fnext (α := Nat) (i + 1) ⟨by omega, take_eq (by omega) (by omega) h2 (ln_t (by assumption))⟩ (by omega) (fstep_sub ⟨Sub.int (by rw [wi64_id]; omega; unfold I64; omega), Sub.refl _, Sub.refl _, trivial⟩)
  · exact congrArg D.bool (decide_eq_false (ne_of_at (i := i) (ln_f (by assumption)))).symm
  · rw [List.take_of_length_le (by omega), List.take_of_length_le (by omega)] at h2
    exact congrArg D.bool (decide_eq_true h2).symm
/-- entries that are the same -/
def Ent.eqB (a b : Ent) : Bool := decide (a.day = b.day) && (decide (a.kind = b.kind) && (decide (a.src = b.src) && decide (a.L = b.L)))
theorem Ent.eqB_self (a : Ent) : a.eqB a = true := by simp [Ent.eqB]
theorem Same (a b : Ent) (ha : a.L.length < 4611686018427387904) (hb : b.L.length < 4611686018427387904) : Pure 24 [a.d, b.d] (.bool (a.eqB b)) := by
  intro S tk
  have h := sameL a.L b.L ha hb
  refine ACalls.fgo c24 rfl fun hS => ?_
  repeat' first | with_reducible refine fzD_ite (fun q => ?_) (fun q => ?_) | ((try conv => whnf); first
    | refine bs_d (fun q => ?_) (fun q => ?_)
    | refine bs_n ?_
    | refine bs_i (fun q => ?_) (fun q => ?_)
    | refine ck (by first | rfl | simp) rfl (h) ?_
    | refine cq (h) ?_
    | refine eqk rfl ?_
    | refine ffin _ rfl rfl hS (Sub.refl _) rfl ⟨?_, rfl, rfl⟩)
  all_goals simp only [Ent.eqB, tupD, D.bool.injEq]
  all_goals simp [*]

/-! ## the entry that is written there -/
def e0 : Ent := ⟨1, 1, 0, [⟨1100, 0, 0, 5⟩, ⟨1200, 0, 0, -5⟩]⟩
def eB : Ent := ⟨1, 1, 0, [⟨1100, 0, 0, 5⟩, ⟨1200, 0, 0, -4⟩]⟩
def l3 : List Ln := [⟨1200, 0, 0, 2⟩, ⟨1100, 0, 0, 3⟩, ⟨1200, 0, 0, -2⟩]
def o3 : List Ln := [⟨1100, 0, 0, 3⟩]
theorem ln_R {a c d n : Int} (h : (-9223372036854775808 ≤ a ∧ a < 9223372036854775808) ∧ (0 ≤ c ∧ c < 18446744073709551616) ∧ (0 ≤ d ∧ d < 18446744073709551616) ∧ (-9223372036854775808 ≤ n ∧ n < 9223372036854775808)) : Ln.R ⟨a, c, d, n⟩ := ⟨h.1, h.2.1, h.2.2.1, h.2.2.2⟩
theorem e0_R : e0.R := ⟨by unfold I64; decide, by decide, by unfold U64; decide, fun x hx => by
  simp only [e0, List.mem_cons, List.not_mem_nil, or_false] at hx
  rcases hx with rfl | rfl <;> exact ln_R (by decide)⟩
theorem eB_R : eB.R := ⟨by unfold I64; decide, by decide, by unfold U64; decide, fun x hx => by
  simp only [eB, List.mem_cons, List.not_mem_nil, or_false] at hx
  rcases hx with rfl | rfl <;> exact ln_R (by decide)⟩
theorem l3_R : ∀ x ∈ l3, x.R := fun x hx => by
  simp only [l3, List.mem_cons, List.not_mem_nil, or_false] at hx
  rcases hx with rfl | rfl | rfl <;> exact ln_R (by decide)
theorem e0_chk : e0.chk = 0 := by decide
theorem eB_chk : eB.chk = 200 := by decide
theorem e0_tot : totS e0 = .tup [.int .i64 5, .int .i64 5, .int .i64 0] := by
  rw [totS, if_pos e0_chk, show posS e0.L = 5 by decide, if_pos (by decide)]
theorem numS_small {n : Nat} (h : n < 128) : numS n = bytesOf [(n : Int)] := by
  rw [numS, numR, show n / 128 = 0 by omega, numT_0, show n % 128 = n by omega]; rfl
theorem numS_two {n : Nat} (h : 128 ≤ n) (h2 : n < 16384) : numS n = bytesOf [128 + ((n / 128 - 1 : Nat) : Int), ((n % 128 : Nat) : Int)] := by
  rw [numS, numR, numT_s (by omega), show (n / 128 - 1) / 128 = 0 by omega, numT_0, show (n / 128 - 1) % 128 = n / 128 - 1 by omega]; rfl
def b0 : ByteArray := ⟨#[1, 1, 0, 2, 135, 76, 0, 0, 10, 136, 48, 0, 0, 9]⟩
theorem e0_putB : putB e0 = b0 := by
  have h1 : numS 1 = ⟨#[1]⟩ := by rw [numS_small (by decide)]; rfl
  have h0 : numS 0 = ⟨#[0]⟩ := by rw [numS_small (by decide)]; rfl
  have h2 : numS 2 = ⟨#[2]⟩ := by rw [numS_small (by decide)]; rfl
  have h10 : numS 10 = ⟨#[10]⟩ := by rw [numS_small (by decide)]; rfl
  have h9 : numS 9 = ⟨#[9]⟩ := by rw [numS_small (by decide)]; rfl
  have hA : numS 1100 = ⟨#[135, 76]⟩ := by rw [numS_two (by decide) (by decide)]; rfl
  have hB : numS 1200 = ⟨#[136, 48]⟩ := by rw [numS_two (by decide) (by decide)]; rfl
  have x1 : lnB ⟨1100, 0, 0, 5⟩ = ⟨#[135, 76, 0, 0, 10]⟩ := by
    show numS 1100 ++ numS 0 ++ numS 0 ++ numS 10 = _
    rw [hA, h0, h10]; decide
  have x2 : lnB ⟨1200, 0, 0, -5⟩ = ⟨#[136, 48, 0, 0, 9]⟩ := by
    show numS 1200 ++ numS 0 ++ numS 0 ++ numS 9 = _
    rw [hB, h0, h9]; decide
  have x0 : hdB e0 = ⟨#[1, 1, 0, 2]⟩ := by
    show numS 1 ++ numS 1 ++ numS 0 ++ numS 2 = _
    rw [h1, h0, h2]; decide
  show hdB e0 ++ lnB ⟨1100, 0, 0, 5⟩ ++ lnB ⟨1200, 0, 0, -5⟩ = _
  rw [x0, x1, x2]; decide
theorem e0_put : putS e0 = .tup [.str b0, .int .i64 0] := by rw [putS, if_pos e0_chk, e0_putB]
theorem l3_ok : ¬ BadL l3 := by unfold BadL big; decide
theorem tid3 : Tid l3 o3 := by
  refine ⟨by simp [o3], fun x => ?_⟩
  constructor
  · intro hx
    simp only [o3, List.mem_singleton] at hx
    subst hx; decide
  · rintro ⟨h1, h2, h3⟩
    obtain ⟨a, c, d, n⟩ := x
    simp only [l3, List.map_cons, List.map_nil, List.mem_cons, List.not_mem_nil, or_false, Ln.t, Prod.mk.injEq] at h3
    rcases h3 with ⟨rfl, rfl, rfl⟩ | ⟨rfl, rfl, rfl⟩ | ⟨rfl, rfl, rfl⟩
    · exact absurd (h2.trans (show sumT l3 (1200, 0, 0) = 0 by decide)) h1
    · rw [show n = 3 from h2.trans (show sumT l3 (1100, 0, 0) = 3 by decide)]; simp [o3]
    · exact absurd (h2.trans (show sumT l3 (1200, 0, 0) = 0 by decide)) h1
theorem Tidy3 : Pure 11 [.sl (lns l3)] (.tup [.sl (lns o3), .int .i64 0]) := by
  intro S tk
  refine (Go.KL.Ytogpeefldehnkaa.Tidy l3 (by decide) l3_R S tk).mono ?_
  rintro r S' tk' ⟨h | ⟨_, out, h1, rfl⟩, rfl, rfl⟩
  · exact absurd h.1 l3_ok
  · rw [h1.uniq tid3]; exact ⟨rfl, rfl, rfl⟩
theorem e0_on : onN (stdQ []) e0 = 0 := by
  rw [onN, if_pos e0_chk]
  show onL (stdQ []) _ = 0
  decide
end Go.KL.Ytogpeefldehnkaa.J

/- lines, tidied, and entries, turned: plain laws -/
set_option linter.unusedVariables false
set_option linter.unusedSimpArgs false
namespace Go.KL.Ytogpeefldehnkaa.J
open Go Go.KL Go.RowKit Go.Proofs Go.KL.Ytogpeefldehnkaa

theorem sumT_perm {a b : List Ln} (h : a.Perm b) (t : Ti) : sumT a t = sumT b t := by
  induction h with
  | nil => rfl
  | cons x _ ih => rw [sumT_cons, sumT_cons, ih]
  | swap x y l => rw [sumT_cons, sumT_cons, sumT_cons, sumT_cons]; omega
  | trans _ _ h1 h2 => exact h1.trans h2
theorem bad_perm {a b : List Ln} (h : a.Perm b) (hb : BadL a) : BadL b := by
  obtain ⟨x, hx, hy⟩ := hb
  exact ⟨x, h.mem_iff.1 hx, by rw [← sumT_perm h]; exact hy⟩
theorem tid_perm {a b out : List Ln} (h : a.Perm b) (ht : Tid a out) : Tid b out :=
  ⟨ht.st, fun x => by rw [ht.mem, sumT_perm h, (h.map Ln.t).mem_iff]⟩
theorem rot_perm (l : List Ln) (k : Nat) : l.Perm (l.drop k ++ l.take k) := by
  have := List.perm_append_comm (l₁ := l.take k) (l₂ := l.drop k)
  rwa [List.take_append_drop] at this
theorem st_nodup {out : List Ln} (h : out.Pairwise Ln.lt) : (out.map Ln.t).Nodup := by
  rw [List.nodup_iff_pairwise_ne, List.pairwise_map]
  exact h.imp fun {a b} hab he => by
    have h' : Ti.lt a.t b.t := hab
    rw [he] at h'
    exact Ti.lt_irrefl _ h'
theorem sumT_off {l : List Ln} {t : Ti} (h : t ∉ l.map Ln.t) : sumT l t = 0 := by rw [sumT, amtsT_none h]; rfl
variable {l out : List Ln}
theorem tid_self (h : Tid l out) : Tid out out := Tid.of_st (st_nodup h.st) (fun x hx => ((h.mem x).1 hx).1) h.st fun _ => Iff.rfl
theorem tid_ok (h : Tid l out) (hb : ¬ BadL l) : ¬ BadL out := by
  rintro ⟨x, hx, hy⟩
  have hm := h.may hb x hx
  rcases hy with hy | hy
  · exact hy hm
  · rw [sumT_own (st_nodup h.st) hx] at hy
    unfold big at hy; unfold Ln.may at hm; omega
theorem tid_sum (h : Tid l out) {x : Ln} (hx : x ∈ l) : sumT out x.t = sumT l x.t := by
  by_cases h0 : sumT l x.t = 0
  · rw [h0]
    refine sumT_off fun hm => ?_
    obtain ⟨y, hy, hyt⟩ := List.mem_map.1 hm
    obtain ⟨h1, h2, -⟩ := (h.mem y).1 hy
    rw [hyt, h0] at h2
    exact h1 h2
  · have hm : (⟨x.acc, x.cus, x.con, sumT l x.t⟩ : Ln) ∈ out := (h.mem _).2 ⟨h0, rfl, List.mem_map.2 ⟨x, hx, rfl⟩⟩
    exact sumT_own (st_nodup h.st) hm
theorem tid_R (h : Tid l out) (hb : ¬ BadL l) (hR : ∀ x ∈ l, x.R) : ∀ x ∈ out, x.R := fun x hx => by
  have hm := h.may hb x hx
  obtain ⟨-, -, h3⟩ := (h.mem x).1 hx
  obtain ⟨y, hy, hyt⟩ := List.mem_map.1 h3
  have hr := hR y hy
  simp only [Ln.t, Prod.mk.injEq] at hyt
  unfold Ln.may at hm
  exact ⟨hyt.1 ▸ hr.acc, hyt.2.1 ▸ hr.cus, hyt.2.2 ▸ hr.con, by unfold I64; omega⟩
theorem tid_nil {out : List Ln} (h : Tid [] out) : out = [] := by
  cases out with
  | nil => rfl
  | cons x r => have := ((h.mem x).1 (List.mem_cons_self ..)).2.2; simp at this
theorem tid_exL {l : List Ln} (hb : ¬ BadL l) : ∃ out, Tid l out ∧ out.length ≤ l.length := by
  have h : ∀ i, i ≤ l.length → ∃ out, TdP l i out := by
    intro i
    induction i with
    | zero => exact fun _ => ⟨[], TdP.zero⟩
    | succ i ih =>
      intro hi
      obtain ⟨out, hp⟩ := ih (by omega)
      have hi' : i < l.length := by omega
      by_cases hm : (l[i]!).t ∈ (l.take i).map Ln.t
      · exact ⟨_, hp.old hi' hm⟩
      · by_cases h0 : sumT l (l[i]!).t = 0
        · exact ⟨_, hp.none hi' h0⟩
        · exact ⟨_, hp.new hi' hm h0 (fun hbg => hb ⟨_, mem_at hi', .inr hbg⟩)⟩
  obtain ⟨out, hp⟩ := h l.length (Nat.le_refl _)
  exact ⟨out, hp.fin.1, hp.len⟩
theorem tid_ex {l : List Ln} (hb : ¬ BadL l) : ∃ out, Tid l out := let ⟨o, h, _⟩ := tid_exL hb; ⟨o, h⟩
theorem tid_len {l out : List Ln} (h : Tid l out) (hb : ¬ BadL l) : out.length ≤ l.length := by
  obtain ⟨o, h1, h2⟩ := tid_exL hb
  rw [h.uniq h1]; exact h2
/-- lines, tidied -/
noncomputable def tidL (l : List Ln) : List Ln := by
  classical exact if h : ∃ out, Tid l out then h.choose else []
theorem tidL_t {l : List Ln} (hb : ¬ BadL l) : Tid l (tidL l) := by
  have h := tid_ex hb
  unfold tidL
  rw [dif_pos h]; exact h.choose_spec
theorem TidyB {l : List Ln} (hl : l.length < 1000000) (hR : ∀ x ∈ l, x.R) (hb : BadL l) : Pure 11 [.sl (lns l)] (.tup [.nilsl, .int .i64 2]) := by
  intro S tk
  refine (Go.KL.Ytogpeefldehnkaa.Tidy l (by omega) hR S tk).mono ?_
  rintro r S' tk' ⟨h | h, rfl, rfl⟩
  · exact ⟨h.2, rfl, rfl⟩
  · exact absurd hb h.1
theorem TidyO {l : List Ln} (hl : l.length < 1000000) (hR : ∀ x ∈ l, x.R) (hb : ¬ BadL l) : Pure 11 [.sl (lns l)] (.tup [.sl (lns (tidL l)), .int .i64 0]) := by
  intro S tk
  refine (Go.KL.Ytogpeefldehnkaa.Tidy l (by omega) hR S tk).mono ?_
  rintro r S' tk' ⟨h | ⟨-, out, ho, rfl⟩, rfl, rfl⟩
  · exact absurd h.1 hb
  · rw [ho.uniq (tidL_t hb)]; exact ⟨rfl, rfl, rfl⟩
theorem rTidyB {l : List Ln} (hl : l.length < 1000000) (hR : ∀ x ∈ l, x.R) (hb : BadL l) : Pure 12 [.sl (lns l)] (.tup [.sl [], .int .i64 2]) := by
  intro S tk
  refine (rTidy l hl hR S tk).mono ?_
  rintro r S' tk' ⟨h | h, rfl, rfl⟩
  · exact ⟨h.2, rfl, rfl⟩
  · exact absurd hb h.1
theorem rTidyO {l : List Ln} (hl : l.length < 1000000) (hR : ∀ x ∈ l, x.R) (hb : ¬ BadL l) : Pure 12 [.sl (lns l)] (.tup [.sl (lns (tidL l)), .int .i64 0]) := by
  intro S tk
  refine (rTidy l hl hR S tk).mono ?_
  rintro r S' tk' ⟨h | ⟨-, out, ho, rfl⟩, rfl, rfl⟩
  · exact absurd h.1 hb
  · rw [ho.uniq (tidL_t hb)]; exact ⟨rfl, rfl, rfl⟩
/-! ## entries, turned -/
theorem neg_t (x : Ln) : (neg x).t = x.t := rfl
theorem neg_may {x : Ln} (h : x.may) : (neg x).may := by unfold Ln.may neg at *; simp only; omega
theorem neg_neg (x : Ln) : neg (neg x) = x := by cases x; simp [neg]
theorem sumT_neg : ∀ (l : List Ln) (t : Ti), sumT (l.map neg) t = - sumT l t
  | [], t => rfl
  | x :: l, t => by
    rw [List.map_cons, sumT_cons, sumT_cons, sumT_neg l t, neg_t]
    by_cases h : x.t = t
    · rw [if_pos h, if_pos h]; simp only [neg]; omega
    · rw [if_neg h, if_neg h]; omega
theorem sum_neg : ∀ l : List Ln, ((l.map neg).map Ln.amt).sum = - (l.map Ln.amt).sum
  | [] => rfl
  | x :: l => by
    simp only [List.map_cons, List.sum_cons]
    rw [sum_neg l]; simp only [neg]; omega
variable {e : Ent} {day : Int}
theorem rev_eq (h0 : e.chk = 0) (hd : 1 ≤ day ∧ day ≤ 3652059) : revE e day = ⟨day, e.kind, e.src, e.L.map neg⟩ := if_pos ⟨h0, hd⟩
theorem rev_chk (h0 : e.chk = 0) (hd : 1 ≤ day ∧ day ≤ 3652059) : (revE e day).chk = 0 := by
  obtain ⟨h1, h2, h3⟩ := Ent.chk_0 h0
  rw [rev_eq h0 hd, Ent.chk, if_pos, if_pos]
  · show ((e.L.map neg).map Ln.amt).sum = 0
    rw [sum_neg, h3]; rfl
  · refine ⟨?_, ?_⟩
    · unfold Ent.hd at h1 ⊢; simp only [List.length_map]; exact ⟨hd.1, hd.2, h1.2.2⟩
    · intro x hx
      obtain ⟨y, hy, rfl⟩ := List.mem_map.1 hx
      exact neg_may (h2 y hy)
theorem rev_rev (h0 : e.chk = 0) (hd : 1 ≤ day ∧ day ≤ 3652059) : revE (revE e day) e.day = e := by
  obtain ⟨h1, h2, h3⟩ := Ent.chk_0 h0
  rw [rev_eq (rev_chk h0 hd) ⟨h1.1, h1.2.1⟩, rev_eq h0 hd]
  cases e with
  | mk d k s L =>
    simp only [Ent.mk.injEq, true_and, List.map_map]
    rw [show neg ∘ neg = id from funext neg_neg, List.map_id]
theorem rev_R (hR : e.R) (h0 : e.chk = 0) (hd : 1 ≤ day ∧ day ≤ 3652059) : (revE e day).R := by
  obtain ⟨h1, h2, h3⟩ := Ent.chk_0 h0
  rw [rev_eq h0 hd]
  refine ⟨by unfold I64; simp only; omega, hR.kind, hR.src, ?_⟩
  intro x hx
  obtain ⟨y, hy, rfl⟩ := List.mem_map.1 hx
  have hm := neg_may (h2 y hy)
  have hr := hR.L y hy
  unfold Ln.may at hm
  exact ⟨hr.acc, hr.cus, hr.con, by unfold I64; omega⟩
theorem two_ok (h0 : e.chk = 0) : ¬ BadL (e.L ++ e.L.map neg) := by
  obtain ⟨h1, h2, h3⟩ := Ent.chk_0 h0
  rintro ⟨x, hx, hy⟩
  rcases hy with hy | hy
  · rcases List.mem_append.1 hx with hx | hx
    · exact hy (h2 x hx)
    · obtain ⟨y, hm, rfl⟩ := List.mem_map.1 hx
      exact hy (neg_may (h2 y hm))
  · rw [sumT_app, sumT_neg] at hy
    unfold big at hy; omega
theorem two_tid {L out : List Ln} (h : Tid (L ++ L.map neg) out) : out = [] := by
  cases out with
  | nil => rfl
  | cons x r =>
    obtain ⟨h1, h2, -⟩ := (h.mem x).1 (List.mem_cons_self ..)
    rw [sumT_app, sumT_neg] at h2
    exact absurd (by omega) h1
theorem neg_of : ∀ {L : List Ln}, (∀ x ∈ L, x.amt < 0) → (L.map Ln.amt).sum ≤ 0 ∧ (L ≠ [] → (L.map Ln.amt).sum < 0)
  | [], _ => ⟨by simp, fun h => absurd rfl h⟩
  | x :: L, h => by
    have h1 := (neg_of fun y hy => h y (List.mem_cons_of_mem _ hy)).1
    have h2 := h x (List.mem_cons_self ..)
    simp only [List.map_cons, List.sum_cons]
    exact ⟨by omega, fun _ => by omega⟩
theorem pos_of : ∀ {L : List Ln}, posS L ≤ 0 → ∀ x ∈ L, x.amt ≤ 0
  | [], _, x, hx => by cases hx
  | y :: L, h, x, hx => by
    have h2 := (pos_neg L).2
    have hy : posS (y :: L) = (if 0 < y.amt then y.amt else 0) + posS L := by
      unfold posS
      by_cases a : 0 < y.amt <;> simp [isPos, a]
    rw [hy] at h
    by_cases a : 0 < y.amt
    · rw [if_pos a] at h; omega
    · rw [if_neg a] at h
      rcases List.mem_cons.1 hx with rfl | hx
      · omega
      · exact pos_of (by omega) x hx
theorem chk_pos (h0 : e.chk = 0) : 0 < posS e.L := by
  obtain ⟨h1, h2, h3⟩ := Ent.chk_0 h0
  refine Classical.byContradiction fun h => ?_
  have h4 := pos_of (L := e.L) (by omega)
  have h5 := (neg_of (L := e.L) fun x hx => by have := h4 x hx; have := (h2 x hx).2.2.1; omega).2 (fun hn => by unfold Ent.hd at h1; rw [hn] at h1; simp at h1)
  omega
theorem Ent.eqB_iff {a b : Ent} : a.eqB b = true ↔ a = b := by
  cases a; cases b
  simp [Ent.eqB]
/-! ## charts of standard accounts -/
theorem step_side {ql : AcL} {a : Go.KL.Ytogpeefldehnkaa.Ac} (h : ∀ x ∈ ql, sideF x.cl ≠ 0) : ∀ x ∈ stepQ ql a, sideF x.cl ≠ 0 := by
  intro x hx
  unfold stepQ addR at hx
  split at hx
  · rename_i h0
    rcases mem_ins.1 hx with rfl | hx
    · exact (addE_inv h0).1.2.1
    · exact h x hx
  · exact h x hx
theorem fold_side : ∀ (l : AcL) {ql : AcL}, (∀ x ∈ ql, sideF x.cl ≠ 0) → ∀ x ∈ l.foldl stepQ ql, sideF x.cl ≠ 0
  | [], ql, h => h
  | a :: l, ql, h => fold_side l (step_side h)
theorem fold_sideN : ∀ (l : AcL) {ql : AcL}, (∀ x ∈ ql, sideF x.cl ≠ 0) → ∀ x ∈ l.foldl stepN ql, sideF x.cl ≠ 0
  | [], ql, h => h
  | a :: l, ql, h => fold_sideN l (by
    unfold stepN; split
    · exact step_side h
    · exact h)
theorem std_side (more : AcL) : ∀ x ∈ stdQ more, sideF x.cl ≠ 0 := fold_sideN more (fold_side stdA (by simp))
/-- an open leaf -/
def fineA (ql : AcL) (x : Ln) : Bool := match look ql x.acc with
  | none => false
  | some a => !a.sh && lfQ ql x.acc
theorem onL_fine (ql : AcL) : ∀ L : List Ln, (onL ql L = 0 ↔ L.all (fineA ql) = true) ∧ (onL ql L = 0 ∨ onL ql L = 7 ∨ onL ql L = 9)
  | [] => by simp [onL]
  | x :: L => by
    obtain ⟨h1, h2⟩ := onL_fine ql L
    rw [onL, List.all_cons, fineA]
    cases hx : look ql x.acc with
    | none => simp
    | some a =>
      simp only
      cases hs : a.sh <;> cases hl : lfQ ql x.acc
      case false.true =>
        rw [if_neg (by simp)]
        exact ⟨by rw [h1]; simp, h2⟩
      all_goals simp
end Go.KL.Ytogpeefldehnkaa.J

/- the laws' head; JournalTidies, JournalTurns -/
set_option linter.unusedVariables false
set_option linter.unusedSimpArgs false
set_option linter.unusedSectionVars false
set_option maxRecDepth 4000
namespace Go.KL.Ytogpeefldehnkaa.J
open Go Go.KL Go.RowKit Go.Proofs Go.KL.Ytogpeefldehnkaa

theorem c10 : cFun E0.P 10 = some ⟨86, [(0, none)], .seq (.rg [⟨some 0, none, .mv (.k (.bool false))⟩]) (.seq (.rg [⟨some 10, none, .build [.int .i64 0, .int .u64 0, .int .u64 0, .int .i64 0] [(0, 1, .k (.int .i64 1100)), (3, 1, .k (.int .i64 5))]⟩, ⟨some 11, none, .build [.int .i64 0, .int .u64 0, .int .u64 0, .int .i64 0] [(0, 1, .k (.int .i64 1200)), (3, 1, .k (.int .i64 (-5)))]⟩, ⟨some 12, none, .buildS 2 4 [.int .i64 0, .int .u64 0, .int .u64 0, .int .i64 0] [(0, .t 10), (1, .t 11)] 34⟩, ⟨some 13, none, .build [.int .i64 0, .int .u8 0, .int .u64 0, .nilsl] [(0, 1, .k (.int .i64 1)), (1, 1, .k (.int .u8 1)), (3, 1, .t 12)]⟩, ⟨some 1, none, .alloc [.int .i64 0, .int .u8 0, .int .u64 0, .nilsl] 39⟩, ⟨none, none, .st 4 (.t 1) (.t 13)⟩]) (.seq (.rg [⟨some 15, none, .ld 4 true (.t 1)⟩, ⟨some 16, none, .call 23 [.t 15]⟩, ⟨some 14, none, .mv (.t 16)⟩, ⟨some 17, none, .ext 0 (.t 14)⟩, ⟨some 18, none, .ext 1 (.t 14)⟩, ⟨some 19, none, .ext 2 (.t 14)⟩, ⟨some 2, none, .mv (.t 17)⟩, ⟨some 3, none, .mv (.t 18)⟩, ⟨some 4, none, .mv (.t 19)⟩]) (.seq (.rg [⟨some 21, none, .ld 4 true (.t 1)⟩, ⟨some 22, none, .call 25 [.t 21]⟩, ⟨some 20, none, .mv (.t 22)⟩, ⟨some 23, none, .ext 0 (.t 20)⟩, ⟨some 24, none, .ext 1 (.t 20)⟩, ⟨some 5, none, .mv (.t 23)⟩, ⟨some 6, none, .mv (.t 24)⟩]) (.seq (.rg [⟨some 25, none, .build [.int .i64 0, .int .u64 0, .int .u64 0, .int .i64 0] [(0, 1, .k (.int .i64 1100)), (3, 1, .k (.int .i64 5))]⟩, ⟨some 26, none, .build [.int .i64 0, .int .u64 0, .int .u64 0, .int .i64 0] [(0, 1, .k (.int .i64 1200)), (3, 1, .k (.int .i64 (-4)))]⟩, ⟨some 27, none, .buildS 2 4 [.int .i64 0, .int .u64 0, .int .u64 0, .int .i64 0] [(0, .t 25), (1, .t 26)] 34⟩, ⟨some 28, none, .build [.int .i64 0, .int .u8 0, .int .u64 0, .nilsl] [(0, 1, .k (.int .i64 1)), (1, 1, .k (.int .u8 1)), (3, 1, .t 27)]⟩, ⟨some 7, none, .alloc [.int .i64 0, .int .u8 0, .int .u64 0, .nilsl] 39⟩, ⟨none, none, .st 4 (.t 7) (.t 28)⟩]) (.seq (.rg [⟨some 30, none, .build [.int .i64 0, .int .u64 0, .int .u64 0, .int .i64 0] [(0, 1, .k (.int .i64 1200)), (3, 1, .k (.int .i64 2))]⟩, ⟨some 31, none, .build [.int .i64 0, .int .u64 0, .int .u64 0, .int .i64 0] [(0, 1, .k (.int .i64 1100)), (3, 1, .k (.int .i64 3))]⟩, ⟨some 32, none, .build [.int .i64 0, .int .u64 0, .int .u64 0, .int .i64 0] [(0, 1, .k (.int .i64 1200)), (3, 1, .k (.int .i64 (-2)))]⟩, ⟨some 33, none, .buildS 3 4 [.int .i64 0, .int .u64 0, .int .u64 0, .int .i64 0] [(0, .t 30), (1, .t 31), (2, .t 32)] 34⟩, ⟨some 34, none, .call 11 [.t 33]⟩, ⟨some 29, none, .mv (.t 34)⟩, ⟨some 35, none, .ext 0 (.t 29)⟩, ⟨some 36, none, .ext 1 (.t 29)⟩, ⟨some 8, none, .mv (.t 35)⟩, ⟨some 9, none, .mv (.t 36)⟩]) (.seq (.rd [(⟨some 37, none, .ld 4 true (.t 1)⟩, none), (⟨some 38, none, .call 17 [.t 37]⟩, some []), (⟨some 39, none, .bin .eql .leaf (.t 38) (.k (.int .i64 0))⟩, none), (⟨some 40, none, .mv (.t 39)⟩, none), (⟨some 41, some (40, true), .mv (.t 2)⟩, none), (⟨some 42, some (40, true), .bin .eql .leaf (.t 41) (.k (.int .i64 5))⟩, none), (⟨some 43, none, .pick (.t 40) (.t 42) (.k (.bool false))⟩, none), (⟨some 44, none, .mv (.t 43)⟩, none), (⟨some 45, some (44, true), .mv (.t 3)⟩, none), (⟨some 46, some (44, true), .bin .eql .leaf (.t 45) (.k (.int .i64 5))⟩, none), (⟨some 47, none, .pick (.t 44) (.t 46) (.k (.bool false))⟩, none), (⟨some 48, none, .mv (.t 47)⟩, none), (⟨some 49, some (48, true), .mv (.t 4)⟩, none), (⟨some 50, some (48, true), .bin .eql .leaf (.t 49) (.k (.int .i64 0))⟩, none), (⟨some 51, none, .pick (.t 48) (.t 50) (.k (.bool false))⟩, none), (⟨some 52, none, .mv (.t 51)⟩, none), (⟨some 53, some (52, true), .mv (.t 5)⟩, none), (⟨some 54, some (52, true), .bin .eql .leaf (.t 53) (.k (.str ⟨#[1, 1, 0, 2, 135, 76, 0, 0, 10, 136, 48, 0, 0, 9]⟩))⟩, none), (⟨some 55, none, .pick (.t 52) (.t 54) (.k (.bool false))⟩, none), (⟨some 56, none, .mv (.t 55)⟩, none), (⟨some 57, some (56, true), .mv (.t 6)⟩, none), (⟨some 58, some (56, true), .bin .eql .leaf (.t 57) (.k (.int .i64 0))⟩, none), (⟨some 59, none, .pick (.t 56) (.t 58) (.k (.bool false))⟩, none), (⟨some 60, none, .mv (.t 59)⟩, none), (⟨some 61, some (60, true), .ld 4 true (.t 7)⟩, none), (⟨some 62, some (60, true), .call 17 [.t 61]⟩, some []), (⟨some 63, some (60, true), .bin .eql .leaf (.t 62) (.k (.int .i64 200))⟩, none), (⟨some 64, none, .pick (.t 60) (.t 63) (.k (.bool false))⟩, none), (⟨some 65, none, .mv (.t 64)⟩, none), (⟨some 66, some (65, true), .mv (.t 8)⟩, none), (⟨some 67, some (65, true), .build [.int .i64 0, .int .u64 0, .int .u64 0, .int .i64 0] [(0, 1, .k (.int .i64 1100)), (3, 1, .k (.int .i64 3))]⟩, none), (⟨some 68, some (65, true), .buildS 1 4 [.int .i64 0, .int .u64 0, .int .u64 0, .int .i64 0] [(0, .t 67)] 34⟩, none), (⟨some 69, some (65, true), .call 13 [.t 66, .t 68]⟩, some []), (⟨some 70, none, .pick (.t 65) (.t 69) (.k (.bool false))⟩, none), (⟨some 71, none, .mv (.t 70)⟩, none), (⟨some 72, some (71, true), .mv (.t 9)⟩, none), (⟨some 73, some (71, true), .bin .eql .leaf (.t 72) (.k (.int .i64 0))⟩, none), (⟨some 74, none, .pick (.t 71) (.t 73) (.k (.bool false))⟩, none), (⟨some 75, none, .mv (.t 74)⟩, none), (⟨some 77, some (75, true), .ld 4 true (.t 1)⟩, none), (⟨some 76, some (75, true), .call 16 [.k .nilsl]⟩, some [⟨some 77, some (75, true), .ld 4 true (.t 1)⟩]), (⟨some 78, some (75, true), .call 18 [.t 76, .t 77]⟩, some []), (⟨some 79, some (75, true), .bin .eql .leaf (.t 78) (.k (.int .i64 0))⟩, none), (⟨some 80, none, .pick (.t 75) (.t 79) (.k (.bool false))⟩, none), (⟨some 81, none, .mv (.t 80)⟩, none), (⟨some 82, some (81, true), .ld 4 true (.t 1)⟩, none), (⟨some 83, some (81, true), .call 18 [.k .nilp, .t 82]⟩, some []), (⟨some 84, some (81, true), .bin .eql .leaf (.t 83) (.k (.int .i64 1))⟩, none), (⟨some 85, none, .pick (.t 81) (.t 84) (.k (.bool false))⟩, none), (⟨some 0, none, .mv (.t 85)⟩, none)]) .ret))))))⟩ := by kernel_rfl

theorem std_at (more : AcL) (hml : more.length < 100000) {n : Nat} {S : List O} {tk : Tks} (hn : S.length = n) :
    ACalls E0 16 [.sl (acsL more)] S tk (fun r S' tk' => ∃ o, (r = .po (n + 1) 0 ∧ Ch (look (stdQ more)) o) ∧ S' = S ++ [o, .arr [.map n]] ∧ tk' = tk) := by
  subst hn; exact standard_n more hml S tk
theorem on_cN {ql : AcL} {e : Ent} {n : Int} {o : O} {S : List O} {tk : Tks} {cid mid : Nat} (hn : onN ql e = n) (hch : Ch (look ql) o) (hc : S[cid]? = some (.arr [.map mid])) (hm : S[mid]? = some o) (hok : OkQ ql) (hl : ql.length < 1000000) (hR : e.R) :
    ACalls E0 18 [.po cid 0, e.d] S tk (fun r S' tk' => r = .int .i64 n ∧ S' = S ∧ tk' = tk) := hn ▸ on_c hch hc hm hok hl e hR
set_option maxHeartbeats 2000000 in
theorem head : Pure 10 [] (.bool true) := by
  intro S tk
  have h1 := Totals e0 e0_R
  rw [e0_tot] at h1
  have h2 := Put e0 e0_R
  rw [e0_put] at h2
  have h3 := Check e0 e0_R
  rw [e0_chk] at h3
  have h4 := Check eB eB_R
  rw [eB_chk] at h4
  have h5 := sameL o3 o3 (by decide) (by decide)
  rw [decide_eq_true rfl] at h5
  have h6 := on_nil e0
  refine ACalls.fgo c10 rfl fun hS => ?_
  repeat' first | with_reducible refine fzD_ite (fun q => ?_) (fun q => ?_) | ((try conv => whnf); first
    | refine bs_t (decide_eq_true rfl) ?_
    | refine bs_d (fun q => ?_) (fun q => ?_)
    | refine bs_n ?_
    | refine bs_i (fun q => ?_) (fun q => ?_)
    | refine ck (by first | rfl | simp) rfl (h1) ?_
    | refine cq (h1) ?_
    | refine ck (by first | rfl | simp) rfl (h2) ?_
    | refine cq (h2) ?_
    | refine ck (by first | rfl | simp) rfl (h3) ?_
    | refine cq (h3) ?_
    | refine ck (by first | rfl | simp) rfl (h4) ?_
    | refine cq (h4) ?_
    | refine ck (by first | rfl | simp) rfl (Tidy3) ?_
    | refine cq (Tidy3) ?_
    | refine ck (by first | rfl | simp) rfl (h5) ?_
    | refine cq (h5) ?_
    | refine ck (by first | rfl | simp) rfl (h6) ?_
    | refine cq (h6) ?_
    | (refine ckNE (G := fun r o => r = .po (S.length + 2 + 1) 0 ∧ Ch (look (stdQ [])) o) (Jn := fun o => [o, .arr [.map (S.length + 2)]]) (ds' := [.sl (acsL [])]) rfl rfl (std_at [] (by decide) (by simp)) (.cons (Sub.rd rfl) .nil) ?_; rintro r o ⟨rfl, hch⟩)
    | refine ckA rfl rfl (on_cN (cid := S.length + 3) (mid := S.length + 2) e0_on hch (at_own (k := 3) rfl rfl) (at_own (k := 2) rfl rfl) (stdQ_ok []).1 (by have := (stdQ_ok []).2; simp at this; omega) e0_R) ?_
    | refine eqk rfl ?_
    | refine ffin _ rfl rfl hS (Sub.refl _) rfl ⟨?_, rfl, rfl⟩)
  all_goals rfl
end Go.KL.Ytogpeefldehnkaa.J

/- what every row without laid variables wants -/
set_option linter.unusedVariables false
set_option linter.unusedSimpArgs false
set_option maxRecDepth 100000
set_option maxHeartbeats 4000000
namespace Go.KL.Ytogpeefldehnkaa
open Go Go.KL Go.RowKit Go.Proofs Go.Proofs.Ytogpeefldehnkaa Go.ChangeShapes Go.WideShapes

theorem ownP : ownKnob Try.prog.godebug = none := by kernel_rfl
theorem laidOutP : laidOutB Try.prog = true := by kernel_rfl
theorem gokP (W : World) : GRel E0 (cfgW W) := fun g e he => by cases he
theorem noX {p : World → Tape → Input → Prop} {q1 q2 q3 q4 : World → Tape → Input → Prop} {A B : World → Tape → Input → Prop}
    (h : ∃ w t i, q1 w t i ∧ q2 w t i ∧ q3 w t i ∧ q4 w t i ∧ ((A w t i ∧ True) ∧ B w t i) ∧ p w t i) : ∃ w t i, q1 w t i ∧ q2 w t i ∧ q3 w t i ∧ q4 w t i ∧ (A w t i ∧ B w t i) ∧ p w t i := by
  obtain ⟨w, t, i, a, b, c, d, ⟨⟨e, _⟩, g⟩, h⟩ := h
  exact ⟨w, t, i, a, b, c, d, ⟨e, g⟩, h⟩
end Go.KL.Ytogpeefldehnkaa

/- journal: how a line, an entry, an account are read -/
set_option linter.unusedVariables false
set_option linter.unusedSimpArgs false
set_option maxRecDepth 100000
namespace Go.KL.Ytogpeefldehnkaa
open Go Go.KL Go.RowKit Go.Proofs Go.KL.Ytogpeefldehnkaa.J

def shLn : Sh := .agg [.int .i64, .int .u64, .int .u64, .int .i64]
theorem ok_ln {H : Type} {d : DataW H} (h : shLn.ok d) : ∃ x : Ln, x.R ∧ shLn.cells d = x.cs := by
  obtain ⟨parts, rfl, d1, _, rfl, ⟨n1, rfl, w1⟩, d2, _, rfl, ⟨n2, rfl, w2⟩, d3, _, rfl, ⟨n3, rfl, w3⟩, d4, _, rfl, ⟨n4, rfl, w4⟩, rfl⟩ := h
  exact ⟨⟨n1, n2, n3, n4⟩, ⟨ok_i64 w1, ok_u64 w2, ok_u64 w3, ok_i64 w4⟩, rfl⟩
def shEnt : Sh := .agg [.int .i64, .int .u8, .int .u64, .sl shLn]
def entCs (e : Go.KL.Ytogpeefldehnkaa.J.Ent) : List D := [.int .i64 e.day, .int .u8 e.kind, .int .u64 e.src, .sl (lns e.L)]
theorem ok_ent {H : Type} {d : DataW H} (h : shEnt.ok d) : ∃ e : Go.KL.Ytogpeefldehnkaa.J.Ent, e.R ∧ shEnt.cells d = entCs e := by
  obtain ⟨parts, rfl, d1, _, rfl, ⟨n1, rfl, w1⟩, d2, _, rfl, ⟨n2, rfl, w2⟩, d3, _, rfl, ⟨n3, rfl, w3⟩, d4, _, rfl, h4, rfl⟩ := h
  obtain ⟨l, hR, hl, hcs⟩ := ok_sl (R := fun x : Ln => x.R) (C := Ln.cs) (fun d h => ok_ln h) h4
  refine ⟨⟨n1, n2, n3, l⟩, ⟨ok_i64 w1, ok_u8 w2, ok_u64 w3, hR⟩, ?_⟩
  show Sh.cells (.int .i64) _ ++ (Sh.cells (.int .u8) _ ++ (Sh.cells (.int .u64) _ ++ ((Sh.sl shLn).cells d4 ++ []))) = _
  rw [hcs]; rfl
def shAcJ : Sh := .agg [.int .i64, .int .i64, .int .u8, .str, .bool]
theorem ok_acJ {H : Type} {d : DataW H} (h : shAcJ.ok d) : ∃ a : Go.KL.Ytogpeefldehnkaa.Ac, True ∧ shAcJ.cells d = a.cs := by
  obtain ⟨parts, rfl, d1, _, rfl, ⟨n1, rfl, w1⟩, d2, _, rfl, ⟨n2, rfl, w2⟩, d3, _, rfl, ⟨n3, rfl, w3⟩, d4, _, rfl, ⟨s4, rfl, w4⟩, d5, _, rfl, ⟨b5, rfl⟩, rfl⟩ := h
  exact ⟨⟨n1, n2, n3, ⟨s4.toArray⟩, b5⟩, trivial, rfl⟩
def shAskJ : Sh := .agg [shEnt, .sl shAcJ, .bool, .int .i64]
def askJ (e : Go.KL.Ytogpeefldehnkaa.J.Ent) (more : AcL) (sh : Bool) (day : Int) : List D := [.int .i64 e.day, .int .u8 e.kind, .int .u64 e.src, .sl (lns e.L), .sl (acsL more), .bool sh, .int .i64 day]
theorem ok_askJ {H : Type} {d : DataW H} (h : shAskJ.ok d) : ∃ (e : Go.KL.Ytogpeefldehnkaa.J.Ent) (more : AcL) (sh : Bool) (day : Int), e.R ∧ I64 day ∧ shAskJ.cells d = askJ e more sh day := by
  obtain ⟨parts, rfl, d1, _, rfl, h1, d2, _, rfl, h2, d3, _, rfl, ⟨b3, rfl⟩, d4, _, rfl, ⟨n4, rfl, w4⟩, rfl⟩ := h
  obtain ⟨e, hR, c1⟩ := ok_ent h1
  obtain ⟨l, _, _, c2⟩ := ok_sl (R := fun _ => True) (C := Go.KL.Ytogpeefldehnkaa.Ac.cs) (fun d h => ok_acJ h) h2
  refine ⟨e, l, b3, n4, hR, ok_i64 w4, ?_⟩
  show shEnt.cells d1 ++ ((Sh.sl shAcJ).cells d2 ++ (Sh.cells .bool _ ++ (Sh.cells (.int .i64) _ ++ []))) = _
  rw [c1, c2]; rfl
end Go.KL.Ytogpeefldehnkaa
