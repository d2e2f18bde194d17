/- acts on books; which are too great -/
import Derived.Test.YtkojphmejddhiaaGreatDoorBe
import Derived.Test.YtkojphmejddhiaaGreatDoorBd
import Derived.Test.YtkojphmejddhiaaGreatDoorKy
set_option linter.unusedVariables false
set_option linter.unusedSimpArgs false
set_option linter.unusedSectionVars false
set_option maxRecDepth 100000
set_option maxHeartbeats 4000000
namespace Go.KL.YtkojphmejddhiaaGreatDoor.J
open Go Go.KL Go.RowKit Go.Proofs Go.KL.YtkojphmejddhiaaGreatDoor
theorem c4 : cFun E0.P 4 = some ⟨31, [(2, none)], .seq (.rg [⟨some 2, none, .mv (.k (.bool false))⟩]) (.seq (.seq (.rg [⟨some 3, none, .mv (.k (.int .i64 0))⟩]) (.block 0 (.loop (.seq (.seq (.rg [⟨some 4, none, .mv (.t 3)⟩, ⟨some 5, none, .mv (.t 0)⟩, ⟨some 6, none, .len 1 (.t 5)⟩, ⟨some 7, none, .bin .lss .leaf (.t 4) (.t 6)⟩]) (.cond (.t 7) .skip (.exit 0))) (.seq (.block 1 (.seq (.rg [⟨some 10, none, .mv (.t 0)⟩, ⟨some 11, none, .mv (.t 3)⟩, ⟨some 12, none, .ia 11 (.t 10) (.t 11)⟩, ⟨some 13, none, .fa 1 (.t 12)⟩, ⟨some 14, none, .fa 3 (.t 13)⟩, ⟨some 15, none, .ld 1 false (.t 14)⟩, ⟨some 16, none, .len 1 (.t 15)⟩, ⟨some 17, none, .bin .gtr .leaf (.t 16) (.k (.int .i64 20))⟩, ⟨some 18, none, .mv (.t 17)⟩, ⟨some 19, some (18, false), .mv (.t 0)⟩, ⟨some 20, some (18, false), .mv (.t 3)⟩, ⟨some 21, some (18, false), .ia 11 (.t 19) (.t 20)⟩, ⟨some 22, some (18, false), .fa 6 (.t 21)⟩, ⟨some 23, some (18, false), .fa 3 (.t 22)⟩, ⟨some 24, some (18, false), .ld 1 false (.t 23)⟩, ⟨some 25, some (18, false), .len 0 (.t 24)⟩, ⟨some 26, some (18, false), .bin .gtr .leaf (.t 25) (.k (.int .i64 200))⟩, ⟨some 27, none, .pick (.t 18) (.k (.bool true)) (.t 26)⟩]) (.cond (.t 27) (.seq (.rg [⟨some 2, none, .mv (.k (.bool true))⟩]) .ret) .skip))) (.rg [⟨some 8, none, .mv (.t 3)⟩, ⟨some 9, none, .bin .add .leaf (.t 8) (.k (.int .i64 1))⟩, ⟨some 3, none, .mv (.t 9)⟩])))))) (.seq (.rg [⟨some 28, none, .mv (.t 0)⟩, ⟨some 29, none, .len 1 (.t 28)⟩, ⟨some 30, none, .bin .gtr .leaf (.t 29) (.k (.int .i64 16))⟩, ⟨some 2, none, .mv (.t 30)⟩]) .ret))⟩ := by kernel_rfl

structure At where
  what : Int
  e : Ent
  mo : Int
  a : Go.KL.YtkojphmejddhiaaGreatDoor.Ac
structure At.R (x : At) : Prop where
  what : 0 ≤ x.what ∧ x.what < 256
  e : x.e.R
  mo : I64 x.mo
instance : Inhabited At := ⟨⟨0, ⟨0, 0, 0, []⟩, 0, default⟩⟩
def At.cs (x : At) : List D := [.int .u8 x.what, .int .i64 x.e.day, .int .u8 x.e.kind, .int .u64 x.e.src, .sl (lns x.e.L), .int .i64 x.mo, .int .i64 x.a.code, .int .i64 x.a.up, .int .u8 x.a.cl, .str x.a.nm, .bool x.a.sh]
def ats (l : List At) : List (List D) := l.map At.cs
theorem ats_len (l : List At) : (ats l).length = l.length := List.length_map ..
theorem iaD_at {l : List At} {i : Nat} {n : Int} (h : n = i) (hi : i < l.length) : iaD 11 (.sl (ats l)) (.int .i64 n) = some (.pe (l[i]!).cs 0) := by
  subst h
  exact iaD_map (f := At.cs) (by omega) (by rw [Int.toNat_natCast, List.getElem?_eq_getElem hi, getElem!_pos l i hi]) rfl
theorem scLL_ats (n m : Nat) : ∀ l : List At, scLL n m (ats l) = true
  | [] => rfl
  | x :: l => by
    have h := scLL_ats n m l
    unfold ats at h ⊢
    simp only [List.map_cons, scLL, h, Bool.and_true]
    simp [At.cs, scL, D.sc, scLL_lns]
def bigA (x : At) : Bool := decide (20 < x.e.L.length) || decide (200 < x.a.nm.size)
def greatB (l : List At) : Bool := l.any bigA || decide (16 < l.length)
theorem great (l : List At) (hl : l.length ≤ maxLen) : Pure 4 [.sl (ats l)] (.bool (greatB l)) := by
  intro S tk
  have hlen := ats_len l
  unfold maxLen at hl
  refine ACalls.fgo c4 rfl fun hS => ?_
  repeat' first | with_reducible refine fzD_ite (fun q => ?_) (fun q => ?_) | ((try conv => whnf); first | refine bs_d (fun q => ?_) (fun q => ?_) | refine bs_n ?_ | refine bs_i (fun q => ?_) (fun q => ?_) | refine eqk rfl ?_ | refine ffin _ rfl rfl hS (Sub.refl _) rfl ⟨?_, rfl, rfl⟩)
  refine floop (α := Nat) rfl rfl hS (fun i => i ≤ l.length ∧ (l.take i).any bigA = false) (fun i => l.length - i) (fun i => [(3, .d (.int .i64 i)), (0, .d (.sl (ats l)))]) (fun _ => []) (fun _ => []) 0 ⟨Nat.zero_le _, by simp⟩ (fstep_sub ⟨Sub.refl _, Sub.refl _, trivial⟩) ?_
  rintro i ⟨hi, hb⟩
  by_cases hlt : i < l.length
  · have hll := lns_len (l[i]!).e.L
    have hst : (l.take (i + 1)).any bigA = bigA l[i]! := by rw [take_snA hlt, List.any_append, hb]; simp
    cases hbg : bigA l[i]! with
    | true =>
      have hany : l.any bigA = true := List.any_eq_true.2 ⟨_, mem_at hlt, hbg⟩
      have hres : greatB l = true := by rw [greatB, hany]; rfl
      rw [hres]
      unfold bigA at hbg
      simp only [Bool.or_eq_true, decide_eq_true_eq] at hbg
      repeat' first | with_reducible refine fzD_ite (fun q => ?_) (fun q => ?_) | ((try conv => whnf); first | refine bs_t (decide_eq_true (show (i : Int) < (ats l).length by omega)) ?_ | refine bs_d (fun q => ?_) (fun q => ?_) | refine bs_n ?_ | refine bs_i (fun q => ?_) (fun q => ?_) | refine pK_i (iaD_at (i := i) rfl hlt) ?_ | refine eqk rfl ?_ | refine ffin _ rfl rfl hS (Sub.refl _) rfl ⟨?_, rfl, rfl⟩)
      all_goals first | rfl | (exfalso; omega)
    | false =>
      rw [hbg] at hst
      unfold bigA at hbg
      simp only [Bool.or_eq_false_iff, decide_eq_false_iff_not] at hbg
      repeat' first | with_reducible refine fzD_ite (fun q => ?_) (fun q => ?_) | ((try conv => whnf); first | refine bs_t (decide_eq_true (show (i : Int) < (ats l).length by omega)) ?_ | refine bs_d (fun q => ?_) (fun q => ?_) | refine bs_n ?_ | refine bs_i (fun q => ?_) (fun q => ?_) | refine pK_i (iaD_at (i := i) rfl hlt) ?_ | refine eqk rfl ?_ | refine ffin _ rfl rfl hS (Sub.refl _) rfl ⟨?_, rfl, rfl⟩)
      all_goals first
        | (exfalso; omega)
        | (conv => whnf
           exact fnext (α := Nat) (i + 1) ⟨by omega, hst⟩ (by omega) (fstep_sub ⟨Sub.int (by first | rfl | omega | (refine Int.sub_eq_zero.mp ?_; simp (disch := ((try unfold I64); omega)) only [wi64_id, td]; omega)), Sub.refl _, trivial⟩))
  · rw [List.take_of_length_le (by omega)] at hb
    unfold greatB
    rw [hb, Bool.false_or]
    by_cases h16 : 16 < l.length
    · rw [decide_eq_true h16]
      repeat' first | with_reducible refine fzD_ite (fun q => ?_) (fun q => ?_) | ((try conv => whnf); first | refine bs_f (decide_eq_false (show ¬ (i : Int) < (ats l).length by omega)) ?_ | refine bs_d (fun q => ?_) (fun q => ?_) | refine bs_n ?_ | refine bs_i (fun q => ?_) (fun q => ?_) | refine eqk rfl ?_ | refine ffin _ rfl rfl hS (Sub.refl _) rfl ⟨?_, rfl, rfl⟩)
      all_goals first | rfl | (exfalso; omega)
    · rw [decide_eq_false h16]
      repeat' first | with_reducible refine fzD_ite (fun q => ?_) (fun q => ?_) | ((try conv => whnf); first | refine bs_f (decide_eq_false (show ¬ (i : Int) < (ats l).length by omega)) ?_ | refine bs_d (fun q => ?_) (fun q => ?_) | refine bs_n ?_ | refine bs_i (fun q => ?_) (fun q => ?_) | refine eqk rfl ?_ | refine ffin _ rfl rfl hS (Sub.refl _) rfl ⟨?_, rfl, rfl⟩)
      all_goals first | rfl | (exfalso; omega)
open Go Go.KL Go.RowKit Go.Proofs Go.Proofs.YtkojphmejddhiaaGreatDoor Go.ChangeShapes Go.WideShapes Go.KL.YtkojphmejddhiaaGreatDoor
def shAcB : Sh := .agg [.int .i64, .int .i64, .int .u8, .str, .bool]
def shAtB : Sh := .agg [.int .u8, shEnt, .int .i64, shAcB]
theorem ok_at {H : Type} {d : DataW H} (h : shAtB.ok d) : ∃ x : At, x.R ∧ shAtB.cells d = x.cs := by
  obtain ⟨parts, rfl, d1, _, rfl, ⟨n1, rfl, w1⟩, d2, _, rfl, h2, d3, _, rfl, ⟨n3, rfl, w3⟩, d4, _, rfl, h4, rfl⟩ := h
  obtain ⟨e, hR, hcs⟩ := ok_ent h2
  obtain ⟨parts, rfl, a1, _, rfl, ⟨m1, rfl, v1⟩, a2, _, rfl, ⟨m2, rfl, v2⟩, a3, _, rfl, ⟨m3, rfl, v3⟩, a4, _, rfl, ⟨s4, rfl, v4⟩, a5, _, rfl, ⟨b5, rfl⟩, rfl⟩ := h4
  refine ⟨⟨n1, e, n3, ⟨m1, m2, m3, ⟨s4.toArray⟩, b5⟩⟩, ⟨ok_u8 w1, hR, ok_i64 w3⟩, ?_⟩
  show Sh.cells (.int .u8) _ ++ (shEnt.cells d2 ++ _) = _
  rw [hcs]; rfl
noncomputable def nextF (ql : AcL) (f : Slot → Option Int) (closed : Int) (e : Ent) : Slot → Option Int := if postN ql f closed e = 0 then postF f e else f
noncomputable def nextE (ql : AcL) (f : Slot → Option Int) (closed : Int) (E : List Ent) (e : Ent) : List Ent := if postN ql f closed e = 0 then E ++ [e] else E
noncomputable def numP (ql : AcL) (f : Slot → Option Int) (closed : Int) (E : List Ent) (e : Ent) : Int := if postN ql f closed e = 0 then ((E.length + 1 : Nat) : Int) else 0
theorem Keeps.refl (lo bid mid : Nat) (X : List O) : Keeps lo bid mid X X := ⟨Nat.le_refl _, fun _ _ => rfl, fun _ _ h _ _ _ => h⟩
section
variable {X : List O} {tk : Tks} {lo bid cid kid mid : Nat} {ql : AcL} {f : Slot → Option Int} {E : List Ent} {closed : Int}
theorem postA (h : BkR X lo bid cid kid mid ql f E closed) (e : Ent) (hR : e.R) (hE : E.length < 1000000) :
    ACalls E0 10 [.po bid 0, e.d] X tk (fun r X' tk' => (r = .tup [.int .u64 (numP ql f closed E e), .int .i64 (postN ql f closed e)] ∧ BkR X' lo bid cid kid mid ql (nextF ql f closed e) (nextE ql f closed E e) closed ∧ Keeps lo bid mid X X') ∧ ((∀ id, id < lo → X'[id]? = X[id]?) ∧ lo ≤ X'.length) ∧ tk' = tk) := by
  obtain ⟨vid, ety, hb, -⟩ := h.b
  have hbl := (List.getElem?_eq_some_iff.1 hb).1
  have hlo := h.lo.1
  by_cases hbad : onN ql e ≠ 0 ∨ ofI e.day ≤ closed
  · have hp : postN ql f closed e = (if onN ql e ≠ 0 then onN ql e else 210) := if_pos hbad
    have hne : (if onN ql e ≠ 0 then onN ql e else 210) ≠ 0 := by
      split
      · assumption
      · decide
    refine (post_err h e hR hbad).mono ?_
    rintro r X' tk' ⟨rfl, rfl, rfl⟩
    refine ⟨⟨?_, ?_, Keeps.refl ..⟩, ⟨fun _ _ => rfl, by omega⟩, rfl⟩
    · rw [numP, hp, if_neg hne]
    · rw [nextF, nextE, hp, if_neg hne, if_neg hne]; exact h
  · have h1 : onN ql e = 0 := Classical.byContradiction fun h => hbad (.inl h)
    have h2 : ¬ ofI e.day ≤ closed := fun h => hbad (.inr h)
    by_cases h3 : ∀ s ∈ tts (adL e), okS (adL e) f noneF s
    · have hp : postN ql f closed e = 0 := by rw [postN, if_neg hbad, if_pos h3]
      refine (postK h e hR h1 h2 h3 hE).mono ?_
      rintro r X' tk' ⟨⟨rfl, h5, h6⟩, h7, h8⟩
      refine ⟨⟨?_, ?_, h6⟩, h7, h8⟩
      · rw [numP, hp, if_pos rfl]
      · rw [nextF, nextE, if_pos hp, if_pos hp]; exact h5
    · have hp : postN ql f closed e = 211 := by rw [postN, if_neg hbad, if_neg h3]
      refine (post_over h e hR h1 h2 h3).mono ?_
      rintro r X' tk' ⟨rfl, rfl, rfl⟩
      refine ⟨⟨?_, ?_, Keeps.refl ..⟩, ⟨fun _ _ => rfl, by omega⟩, rfl⟩
      · rw [numP, hp, if_neg (by omega)]
      · rw [nextF, nextE, hp, if_neg (by omega), if_neg (by omega)]; exact h
end
theorem nextE_len (ql : AcL) (f : Slot → Option Int) (cl : Int) (E : List Ent) (e : Ent) : (nextE ql f cl E e).length ≤ E.length + 1 := by
  unfold nextE; split <;> simp
theorem mem_ad {e : Ent} {s : Slot} : s ∈ tts (adL e) ↔ ∃ x ∈ e.L, ∃ k, k < 4 ∧ s = slotK e.day x k := by
  rw [mem_tts, List.mem_map]
  constructor
  · rintro ⟨y, hy, rfl⟩
    obtain ⟨x, hx, hy⟩ := List.mem_flatMap.1 hy
    simp only [List.mem_cons, List.not_mem_nil, or_false] at hy
    rcases hy with rfl | rfl | rfl | rfl
    · exact ⟨x, hx, 0, by omega, rfl⟩
    · exact ⟨x, hx, 1, by omega, rfl⟩
    · exact ⟨x, hx, 2, by omega, rfl⟩
    · exact ⟨x, hx, 3, by omega, rfl⟩
  · rintro ⟨x, hx, k, hk, rfl⟩
    refine ⟨sLn (slotK e.day x k) x.amt, List.mem_flatMap.2 ⟨x, hx, ?_⟩, rfl⟩
    have : k = 0 ∨ k = 1 ∨ k = 2 ∨ k = 3 := by omega
    rcases this with rfl | rfl | rfl | rfl <;> simp
theorem post_val (f : Slot → Option Int) (e : Ent) (s : Slot) : (postF f e s).getD 0 = (amtsT (adL e) s).sum + (f s).getD 0 := by
  unfold postF orF gV
  by_cases h : s ∈ tts (adL e)
  · rw [if_pos h]; simp [newV, wasV, noneF]
  · rw [if_neg h, amtsT_none (fun hm => h ((mem_tts _ _).2 hm))]; simp [noneF]
theorem post_same {f : Slot → Option Int} {e : Ent} {s : Slot} (h : s ∉ tts (adL e)) : postF f e s = f s := by
  unfold postF orF gV
  rw [if_neg h]; rfl
theorem slot_mo {day : Int} {x : Ln} {k : Nat} {a i : Int} (hk : k < 4) (h : (a, 3, i) = slotK day x k) : i = ofI day := by
  have : k = 0 ∨ k = 1 ∨ k = 2 ∨ k = 3 := by omega
  rcases this with rfl | rfl | rfl | rfl <;> simp [slotK] at h
  exact h.2
theorem in_stay (f : Slot → Option Int) (e : Ent) {closed : Int} (h2 : ¬ ofI e.day ≤ closed) (a : Int) {month : Int} (hm : month ≤ closed) : inV (postF f e) a month = inV f a month := by
  unfold inV
  split
  · rfl
  · rw [post_same]
    intro h
    obtain ⟨x, _, k, hk, h⟩ := mem_ad.1 h
    have := slot_mo hk h
    omega
theorem neg_slot {d d' : Int} {x : Ln} : ∀ {k : Nat}, k < 3 → slotK d' (neg x) k = slotK d x k
  | 0, _ => rfl
  | 1, _ => rfl
  | 2, _ => rfl
def flat4 (day : Int) (L : List Ln) : List Ln := L.flatMap fun x => [sLn (slotK day x 0) x.amt, sLn (slotK day x 1) x.amt, sLn (slotK day x 2) x.amt, sLn (slotK day x 3) x.amt]
theorem amts_sLn (t s : Slot) (n : Int) (l : List Ln) : (amtsT (sLn t n :: l) s).sum = (if t = s then n else 0) + (amtsT l s).sum := by
  unfold amtsT
  rw [List.filter_cons, sLn_t]
  by_cases h : t = s <;> simp [h, sLn]
theorem amts_nil (s : Slot) : (amtsT [] s).sum = 0 := rfl
theorem flat4_neg (d d' : Int) {s : Slot} (hs : s.2.1 ≠ 3) : ∀ L : List Ln, (amtsT (flat4 d' (L.map neg)) s).sum = -(amtsT (flat4 d L) s).sum
  | [] => rfl
  | x :: L => by
    have ih := flat4_neg d d' hs L
    have h3 : ∀ day y, slotK day y 3 ≠ s := fun day y h => hs (by rw [← h]; rfl)
    unfold flat4 at ih ⊢
    rw [List.map_cons, List.flatMap_cons, List.flatMap_cons, amtsT_app, amtsT_app, List.sum_append, List.sum_append, ih]
    have e : (amtsT [sLn (slotK d' (neg x) 0) (neg x).amt, sLn (slotK d' (neg x) 1) (neg x).amt, sLn (slotK d' (neg x) 2) (neg x).amt, sLn (slotK d' (neg x) 3) (neg x).amt] s).sum = -(amtsT [sLn (slotK d x 0) x.amt, sLn (slotK d x 1) x.amt, sLn (slotK d x 2) x.amt, sLn (slotK d x 3) x.amt] s).sum := by
      rw [neg_slot (d := d) (k := 0) (by omega), neg_slot (d := d) (k := 1) (by omega), neg_slot (d := d) (k := 2) (by omega)]
      have k3 := h3 d' (neg x)
      have k3' := h3 d x
      simp only [amts_sLn, amts_nil, if_neg k3, if_neg k3']
      by_cases h0 : slotK d x 0 = s <;> by_cases h1 : slotK d x 1 = s <;> by_cases h2 : slotK d x 2 = s <;> simp only [h0, h1, h2, if_true, if_false, neg] <;> omega
    rw [e]; omega
theorem back_val (f : Slot → Option Int) (e r : Ent) {day : Int} (hr : r = ⟨day, e.kind, e.src, e.L.map neg⟩) {s : Slot} (hs : s.2.1 ≠ 3) : (postF (postF f e) r s).getD 0 = (f s).getD 0 := by
  subst hr
  rw [post_val, post_val]
  have := flat4_neg e.day day hs e.L
  show (amtsT (flat4 day (e.L.map neg)) s).sum + ((amtsT (flat4 e.day e.L) s).sum + _) = _
  omega
section
variable {X : List O} {tk : Tks} {lo bid cid kid mid : Nat} {ql : AcL} {f : Slot → Option Int} {E : List Ent} {closed : Int}
def clN (closed month : Int) : Int := if closeN closed month = 0 then month else closed
theorem closeA (h : BkR X lo bid cid kid mid ql f E closed) (month : Int) : ACalls E0 12 [.po bid 0, .int .i64 month] X tk (fun r X' tk' => (r = .int .i64 (closeN closed month) ∧ BkR X' lo bid cid kid mid ql f E (clN closed month) ∧ Keeps lo bid mid X X') ∧ ((∀ id, id < lo → X'[id]? = X[id]?) ∧ lo ≤ X'.length) ∧ tk' = tk) := by
  obtain ⟨vid, hb, hB⟩ := bk_close h month
  have hbl := (List.getElem?_eq_some_iff.1 hb).1
  have hlo := h.lo.1
  refine (close_b hb month).mono ?_
  rintro r X' tk' ⟨rfl, rfl, rfl⟩
  unfold clN
  by_cases hc : closeN closed month = 0
  · rw [if_pos hc, if_pos hc]
    exact ⟨⟨rfl, hB, ⟨by simp, fun id hi => List.getElem?_set_ne (by omega), fun id o ho hne _ _ => by rw [List.getElem?_set_ne (Ne.symm hne)]; exact ho⟩⟩, ⟨fun id hi => List.getElem?_set_ne (by omega), by rw [List.length_set]; omega⟩, rfl⟩
  · rw [if_neg hc, if_neg hc]
    exact ⟨⟨rfl, h, Keeps.refl ..⟩, ⟨fun id hi => rfl, by omega⟩, rfl⟩
theorem Keeps.own {S J J' : List O} {k : Nat} {cs : List D} (h : Keeps lo bid mid (S ++ J) (S ++ J')) (hk : J[k]? = some (.arr cs)) (h1 : S.length + k ≠ bid) (h2 : S.length + k ≠ mid) : J'[k]? = some (.arr cs) := by
  have := h.el (S.length + k) (.arr cs) (by rw [lk]; exact hk) h1 h2 (fun _ _ _ h => by cases h)
  rwa [lk] at this
end
theorem BkR.app {X : List O} {lo bid cid kid mid : Nat} {ql : AcL} {f : Slot → Option Int} {E : List Ent} {closed : Int} (h : BkR X lo bid cid kid mid ql f E closed) (J : List O) : BkR (X ++ J) lo bid cid kid mid ql f E closed := by
  obtain ⟨vid, ety, hb, hv⟩ := h.b
  obtain ⟨oc, hk, hch⟩ := h.k
  obtain ⟨om, hm, hf⟩ := h.m
  exact ⟨⟨vid, ety, at_old hb, fun hE => ⟨at_old (hv hE).1, (hv hE).2⟩⟩, at_old h.c, ⟨oc, at_old hk, hch⟩, ⟨om, at_old hm, hf⟩, h.ok, h.lq, h.lo, h.I⟩
theorem BkR.own {S J : List O} {lo bid cid kid mid : Nat} {ql : AcL} {f : Slot → Option Int} {E : List Ent} {closed : Int} (h : BkR (S ++ J) lo bid cid kid mid ql f E closed) (o : O) : BkR (S ++ (J ++ [o])) lo bid cid kid mid ql f E closed := by
  rw [← List.append_assoc]; exact h.app _
theorem set_last {α : Type} (l : List α) (a b : α) : (l ++ [a]).set l.length b = l ++ [b] := by
  rw [List.set_append_right _ _ (Nat.le_refl _), Nat.sub_self]; rfl
theorem mem_last {α : Type} (l : List α) (a : α) : (l ++ [a])[l.length]? = some a := List.getElem?_concat_length
theorem close0 {cl mo : Int} : closeN cl mo = 0 ↔ (1 ≤ mo ∧ mo ≤ 119988 ∧ cl < mo) := by
  unfold closeN; split
  · constructor
    · intro h; cases h
    · intro h; omega
  · split
    · constructor
      · intro h; cases h
      · intro h; omega
    · constructor
      · intro _; omega
      · intro _; rfl
theorem sum_mapadd {α : Type} (g h : α → Int) : ∀ l : List α, (l.map fun a => g a + h a).sum = (l.map g).sum + (l.map h).sum
  | [] => rfl
  | a :: l => by simp only [List.map_cons, List.sum_cons, sum_mapadd g h l]; omega
theorem sum_map0 {α : Type} {g : α → Int} : ∀ {l : List α}, (∀ a ∈ l, g a = 0) → (l.map g).sum = 0
  | [], _ => rfl
  | a :: l, h => by rw [List.map_cons, List.sum_cons, h a (by simp), sum_map0 fun b hb => h b (by simp [hb])]; rfl
theorem sum_ite {cs : List Int} {a n : Int} (hn : cs.Nodup) (ha : a ∈ cs) : (cs.map fun c => if a = c then n else 0).sum = n := by
  induction cs with
  | nil => cases ha
  | cons b r ih =>
    simp only [List.nodup_cons] at hn
    rw [List.map_cons, List.sum_cons]
    by_cases h : a = b
    · rw [if_pos h, sum_map0]
      · omega
      · intro c hc
        rw [if_neg (fun e => hn.1 (by rw [← h, e]; exact hc))]
    · rw [if_neg h, ih hn.2 ((List.mem_cons.1 ha).resolve_left h)]; omega
def acA : List Ln → Int → Int
  | [], _ => 0
  | x :: r, c => (if x.acc = c then x.amt else 0) + acA r c
theorem flat4_own (day : Int) (c : Int) : ∀ L : List Ln, (amtsT (flat4 day L) (c, 0, 0)).sum = acA L c
  | [] => rfl
  | x :: L => by
    have ih := flat4_own day c L
    unfold flat4 at ih ⊢
    rw [List.flatMap_cons, amtsT_app, List.sum_append, ih, acA]
    simp only [amts_sLn, amts_nil]
    rw [if_neg (show slotK day x 1 ≠ (c, 0, 0) by simp [slotK]), if_neg (show slotK day x 2 ≠ (c, 0, 0) by simp [slotK]), if_neg (show slotK day x 3 ≠ (c, 0, 0) by simp [slotK])]
    by_cases h : x.acc = c
    · rw [if_pos h, if_pos (show slotK day x 0 = (c, 0, 0) by rw [← h]; rfl)]; omega
    · rw [if_neg h, if_neg (show slotK day x 0 ≠ (c, 0, 0) by simp [slotK, h])]; omega
theorem own_post (f : Slot → Option Int) (e : Ent) (c : Int) : ownV (postF f e) c = acA e.L c + ownV f c := by
  unfold ownV
  rw [post_val]
  have := flat4_own e.day c e.L
  show (amtsT (flat4 e.day e.L) (c, 0, 0)).sum + _ = _
  rw [this]
theorem sum_acA {cs : List Int} (hn : cs.Nodup) : ∀ {L : List Ln}, (∀ x ∈ L, x.acc ∈ cs) → (cs.map (acA L)).sum = (L.map Ln.amt).sum
  | [], _ => sum_map0 fun _ _ => rfl
  | x :: L, h => by
    have e : acA (x :: L) = fun c => (if x.acc = c then x.amt else 0) + acA L c := rfl
    rw [e, sum_mapadd, sum_ite hn (h x (by simp)), sum_acA hn fun y hy => h y (by simp [hy])]; rfl
theorem acA_mem {c : Int} : ∀ {L : List Ln}, acA L c ≠ 0 → ∃ x ∈ L, x.acc = c
  | [], h => absurd rfl h
  | x :: L, h => by
    by_cases hx : x.acc = c
    · exact ⟨x, by simp, hx⟩
    · rw [acA, if_neg hx, Int.zero_add] at h
      obtain ⟨y, hy, he⟩ := acA_mem h
      exact ⟨y, by simp [hy], he⟩
theorem onL_mem {ql : AcL} : ∀ {L : List Ln}, onL ql L = 0 → ∀ x ∈ L, x.acc ∈ ql.map Ac.code
  | [], _, x, hx => by cases hx
  | y :: L, h, x, hx => by
    rw [onL] at h
    cases hl : look ql y.acc with
    | none => rw [hl] at h; cases h
    | some a =>
      rw [hl] at h
      simp only at h
      split at h
      · cases h
      · rcases List.mem_cons.1 hx with rfl | hx
        · exact look_some.1 (by rw [hl]; rfl)
        · exact onL_mem h x hx
structure TrI (ql : AcL) (f : Slot → Option Int) : Prop where
  nz : ∀ s, -9223372036854775808 < (f s).getD 0
  dom : ∀ c, ownV f c ≠ 0 → c ∈ ql.map Ac.code
  zero : ((ql.map Ac.code).map (ownV f)).sum = 0
theorem TrI.none (ql : AcL) : TrI ql noneF := ⟨fun s => by simp [noneF], fun c h => absurd rfl h, sum_map0 fun _ _ => rfl⟩
theorem post0_inv {ql : AcL} {f : Slot → Option Int} {cl : Int} {e : Ent} (h : postN ql f cl e = 0) : onN ql e = 0 ∧ ∀ s ∈ tts (adL e), okS (adL e) f noneF s := by
  unfold postN at h
  split at h
  · rename_i hb
    by_cases h1 : onN ql e ≠ 0
    · rw [if_pos h1] at h; exact absurd h h1
    · rw [if_neg h1] at h; cases h
  · rename_i hb
    split at h
    · rename_i h3
      exact ⟨Classical.byContradiction fun hh => hb (.inl hh), h3⟩
    · cases h
theorem TrI.post {ql : AcL} {f : Slot → Option Int} {cl : Int} {e : Ent} (hok : OkQ ql) (h : TrI ql f) : TrI ql (nextF ql f cl e) := by
  unfold nextF
  split
  · rename_i h0
    obtain ⟨hon, hokS⟩ := post0_inv h0
    have hc : e.chk = 0 := Classical.byContradiction fun h => by rw [onN, if_neg h] at hon; exact h hon
    rw [onN, if_pos hc] at hon
    obtain ⟨_, _, h3⟩ := Ent.chk_0 hc
    have hm := onL_mem hon
    refine ⟨fun s => ?_, fun c hcn => ?_, ?_⟩
    · unfold postF orF gV
      by_cases hs : s ∈ tts (adL e)
      · rw [if_pos hs]
        have := hokS s hs
        unfold okS at this
        simp only [Option.some_or, Option.getD_some]
        exact this.1
      · rw [if_neg hs]; exact h.nz s
    · rw [own_post] at hcn
      by_cases h4 : acA e.L c = 0
      · exact h.dom c (by omega)
      · obtain ⟨x, hx, rfl⟩ := acA_mem h4
        exact hm x hx
    · have e1 : ownV (postF f e) = fun c => acA e.L c + ownV f c := funext fun c => own_post f e c
      rw [e1, sum_mapadd, h.zero, sum_acA hok.nd hm, h3]; rfl
  · exact h
theorem sum_ins (g : Int → Int) (a : Go.KL.YtkojphmejddhiaaGreatDoor.Ac) : ∀ q : AcL, (((insA q a).map Ac.code).map g).sum = g a.code + ((q.map Ac.code).map g).sum
  | [] => rfl
  | x :: r => by
    rw [insA]
    split
    · simp only [List.map_cons, List.sum_cons, sum_ins g a r]; omega
    · simp only [List.map_cons, List.sum_cons]
theorem TrI.add {ql : AcL} {f : Slot → Option Int} {n : Nat} {a : Go.KL.YtkojphmejddhiaaGreatDoor.Ac} (h : TrI ql f) : TrI (addR ql n a) f := by
  unfold addR
  split
  · rename_i h0
    obtain ⟨_, hc, _⟩ := addE_inv h0
    have hn : ownV f a.code = 0 := Classical.byContradiction fun hh => by
      have := look_some.2 (h.dom _ hh)
      rw [hc] at this; cases this
    refine ⟨h.nz, fun c hcn => ?_, ?_⟩
    · obtain ⟨x, hx, hxc⟩ := List.mem_map.1 (h.dom c hcn)
      exact List.mem_map.2 ⟨x, mem_ins.2 (.inr hx), hxc⟩
    · rw [sum_ins, h.zero, hn]; rfl
  · exact h
theorem shR_codes (ql : AcL) (c : Int) : (shR ql c).map Ac.code = ql.map Ac.code := by
  unfold shR
  rw [List.map_map]
  refine List.map_congr_left fun x _ => ?_
  simp only [Function.comp]
  split <;> rfl
theorem TrI.shut {ql : AcL} {f : Slot → Option Int} {c : Int} (h : TrI ql f) : TrI (if shutRE ql c = 0 then shR ql c else ql) f := by
  split
  · exact ⟨h.nz, by rw [shR_codes]; exact h.dom, by rw [shR_codes]; exact h.zero⟩
  · exact h
theorem tri_mem {ql : AcL} {f : Slot → Option Int} (h : TrI ql f) (hI : ∀ s, I64 ((f s).getD 0)) {b : Ba} (hb : b ∈ triL ql f) : ∃ n, n ≠ 0 ∧ -9223372036854775808 < n ∧ n < 9223372036854775808 ∧ b.deb = max n 0 ∧ b.cre = max (-n) 0 := by
  obtain ⟨a, ha, rfl⟩ := List.mem_map.1 hb
  have h1 := (List.mem_filter.1 ha).2
  have h2 := h.nz (a.code, 0, 0)
  have h3 := hI (a.code, 0, 0)
  refine ⟨ownV f a.code, of_decide_eq_true h1, h2, h3.2, rfl, ?_⟩
  unfold I64 at h3
  show max (IntKind.wrap .i64 (0 - ownV f a.code)) 0 = _
  rw [wi64_id (by unfold I64 ownV; omega), Int.zero_sub]
theorem tri_rise {ql : AcL} {f : Slot → Option Int} (hok : OkQ ql) : ((triL ql f).map Ba.acc).Pairwise (· < ·) := by
  have e : (triL ql f).map Ba.acc = (ql.filter fun a => decide (ownV f a.code ≠ 0)).map Ac.code := by
    unfold triL; rw [List.map_map]; rfl
  rw [e]
  exact hok.rise.sublist ((List.filter_sublist).map _)
def boV (b : Ba) : List Int := [b.deb, IntKind.wrap .i64 (0 - b.cre)]
def boL (t : List Ba) : List Int := t.flatMap boV
theorem boL_len : ∀ t : List Ba, (boL t).length = 2 * t.length
  | [] => rfl
  | b :: t => by
    have := boL_len t
    unfold boL at this ⊢
    rw [List.flatMap_cons, List.length_append, this]; simp [boV]; omega
theorem boL_snoc {t : List Ba} {i : Nat} (hi : i < t.length) : boL (t.take (i + 1)) = boL (t.take i) ++ boV t[i]! := by
  rw [Go.KL.YtkojphmejddhiaaGreatDoor.take_snA hi]; simp [boL]
theorem boL_I {ql : AcL} {f : Slot → Option Int} (h : TrI ql f) (hI : ∀ s, I64 ((f s).getD 0)) : ∀ n ∈ boL (triL ql f), I64 n := by
  intro n hn
  obtain ⟨b, hb, hn⟩ := List.mem_flatMap.1 hn
  obtain ⟨m, _, h1, h2, h3, h4⟩ := tri_mem h hI hb
  simp only [boV, List.mem_cons, List.not_mem_nil, or_false] at hn
  rcases hn with rfl | rfl
  · unfold I64; omega
  · exact wi64_range _
theorem boL_sum {ql : AcL} {f : Slot → Option Int} (h : TrI ql f) (hI : ∀ s, I64 ((f s).getD 0)) : (boL (triL ql f)).sum = 0 := by
  have : ∀ q : AcL, (boL (triL q f)).sum = ((q.map Ac.code).map (ownV f)).sum := fun q => by
    induction q with
    | nil => rfl
    | cons a r ih =>
      have h2 := h.nz (a.code, 0, 0)
      have h3 := hI (a.code, 0, 0)
      unfold I64 at h3
      unfold triL boL at ih ⊢
      rw [List.filter_cons]
      by_cases h0 : ownV f a.code = 0
      · rw [if_neg (by simp [h0]), ih, List.map_cons, List.map_cons, List.sum_cons, h0]; omega
      · rw [if_pos (by simp [h0]), List.map_cons, List.flatMap_cons, List.sum_append, ih, List.map_cons, List.map_cons, List.sum_cons]
        have e : (boV (baV f a)).sum = ownV f a.code := by
          unfold boV baV
          simp only [List.sum_cons, List.sum_nil]
          change -9223372036854775808 < ownV f a.code at h2
          change -9223372036854775808 ≤ ownV f a.code ∧ ownV f a.code < 9223372036854775808 at h3
          rw [wi64_id (n := 0 - ownV f a.code) (by unfold I64; omega), wi64_id (by unfold I64; omega)]
          omega
        rw [e]
  rw [this, h.zero]
theorem sum_swap {α β : Type} (g : α → β → Int) : ∀ (a : List α) (b : List β), (a.map fun x => (b.map (g x)).sum).sum = (b.map fun y => (a.map fun x => g x y).sum).sum
  | [], b => (sum_map0 (fun y _ => rfl)).symm
  | x :: a, b => by
    rw [List.map_cons, List.sum_cons, sum_swap g a b, ← sum_mapadd]; rfl
theorem und_sum (q : AcL) (f : Slot → Option Int) (r : Int) : ∀ l : AcL, ((undL q r l).map (ownV f)).sum = (l.map fun k => if isB (look q) k.code r = true then ownV f k.code else 0).sum
  | [] => rfl
  | k :: l => by
    have ih := und_sum q f r l
    unfold undL at ih ⊢
    rw [List.filter_cons, List.map_cons (f := fun k : Go.KL.YtkojphmejddhiaaGreatDoor.Ac => _), List.sum_cons]
    by_cases h : isB (look q) k.code r = true
    · rw [if_pos h, if_pos h, List.map_cons, List.map_cons, List.sum_cons, ih]
    · rw [if_neg h, if_neg h, ih]; omega
theorem sum_one {α : Type} {p : α → Prop} [DecidablePred p] {n : Int} : ∀ {l : List α}, l.Nodup → (∃ r ∈ l, p r ∧ ∀ x ∈ l, p x → x = r) → (l.map fun x => if p x then n else 0).sum = n
  | [], _, h => by obtain ⟨r, hr, _⟩ := h; cases hr
  | x :: l, hn, h => by
    simp only [List.nodup_cons] at hn
    obtain ⟨r, hr, hp, hu⟩ := h
    rw [List.map_cons, List.sum_cons]
    by_cases hx : p x
    · have := hu x (by simp) hx
      subst this
      rw [if_pos hx, sum_map0]
      · omega
      · intro y hy
        rw [if_neg fun hpy => hn.1 (by rw [← hu y (by simp [hy]) hpy]; exact hy)]
    · rw [if_neg hx, sum_one hn.2 ⟨r, (List.mem_cons.1 hr).resolve_left (fun e => hx (e ▸ hp)), hp, fun y hy => hu y (by simp [hy])⟩]; omega
theorem root_one {q : AcL} (hok : OkQ q) {k : Go.KL.YtkojphmejddhiaaGreatDoor.Ac} (hk : k ∈ q) : ∃ r ∈ q, (r.up = 0 ∧ isB (look q) k.code r.code = true) ∧ ∀ x ∈ q, (x.up = 0 ∧ isB (look q) k.code x.code = true) → x = r := by
  have hkc : look q k.code = some k := look_of hok.rise hk
  have hks : (look q k.code).isSome = true := by rw [hkc]; rfl
  have hpos := dep_pos hok.low hks
  have hd0 : dep (look q) 0 = 0 := dep_none hok.zero
  -- the top
  have hcl := dep_climb hok.low (dep (look q) k.code - 1) k.code (by omega)
  obtain ⟨c, hc⟩ : ∃ c, c = climb (look q) (dep (look q) k.code - 1) k.code := ⟨_, rfl⟩
  rw [← hc] at hcl
  have hdc : dep (look q) c = 1 := by omega
  have hcs : (look q c).isSome = true := by
    cases h : look q c with
    | none => rw [dep_none h] at hdc; cases hdc
    | some _ => rfl
  obtain ⟨r, hr⟩ := Option.isSome_iff_exists.1 hcs
  obtain ⟨hrm, hrc⟩ := look_mem hr
  have hru : r.up = 0 := by
    rcases hok.clF hr with h | h
    · exact h
    · have h1 := dep_up hok.low hcs
      have h2 := dep_pos hok.low h
      rw [show upF (look q) c = r.up by rw [upF, hr]; rfl] at h1
      omega
  refine ⟨r, hrm, ⟨hru, isB_iff.2 ⟨dep (look q) k.code - 1, by omega, by rw [hrc]; exact hc.symm⟩⟩, fun x hx ⟨hxu, hxb⟩ => ?_⟩
  obtain ⟨i, hi, hic⟩ := isB_iff.1 hxb
  have hxl : look q x.code = some x := look_of hok.rise hx
  have hxs : (look q x.code).isSome = true := by rw [hxl]; rfl
  have h1 := dep_up hok.low hxs
  rw [show upF (look q) x.code = x.up by rw [upF, hxl]; rfl, hxu, hd0] at h1
  have h2 := dep_climb hok.low i k.code (by omega)
  rw [hic, h1] at h2
  have h3 : i = dep (look q) k.code - 1 := by omega
  have h4 : x.code = r.code := by rw [hrc, hc, ← h3, hic]
  have h5 := hxl
  rw [h4, hrc, hr] at h5
  exact (Option.some.inj h5).symm
def topL (q : AcL) (f : Slot → Option Int) (l : AcL) : List Int := (l.filter fun a => decide (a.up = 0)).map fun a => (undV q f a.code).sum
theorem topL_snoc (q : AcL) (f : Slot → Option Int) {l : AcL} {i : Nat} (hi : i < l.length) : topL q f (l.take (i + 1)) = topL q f (l.take i) ++ if (l[i]!).up = 0 then [(undV q f (l[i]!).code).sum] else [] := by
  rw [Go.KL.YtkojphmejddhiaaGreatDoor.take_snA hi, topL, List.filter_append, List.map_append, topL]
  generalize l[i]! = a
  congr 1
  by_cases h : a.up = 0 <;> simp [h]
theorem top_sum {q : AcL} {f : Slot → Option Int} (hok : OkQ q) (h : TrI q f) : (topL q f q).sum = 0 := by
  have e1 : ∀ l : AcL, (topL q f l).sum = (l.map fun r => (q.map fun k => if r.up = 0 ∧ isB (look q) k.code r.code = true then ownV f k.code else 0).sum).sum := fun l => by
    induction l with
    | nil => rfl
    | cons r l ih =>
      unfold topL at ih ⊢
      rw [List.filter_cons, List.map_cons (f := fun r : Go.KL.YtkojphmejddhiaaGreatDoor.Ac => _), List.sum_cons]
      by_cases h0 : r.up = 0
      · rw [if_pos (by simp [h0]), List.map_cons, List.sum_cons, ih]
        congr 1
        unfold undV
        rw [und_sum]
        congr 1
        refine List.map_congr_left fun k _ => ?_
        by_cases hb : isB (look q) k.code r.code = true
        · rw [if_pos hb, if_pos ⟨h0, hb⟩]
        · rw [if_neg hb, if_neg (fun h => hb h.2)]
      · rw [if_neg (by simp [h0]), ih, sum_map0 (l := q) (g := fun k => if r.up = 0 ∧ isB (look q) k.code r.code = true then ownV f k.code else 0) fun k _ => if_neg fun h => h0 h.1]; omega
  have hnd : q.Nodup := by
    have := List.pairwise_map.1 hok.rise
    exact this.imp fun h e => by rw [e] at h; omega
  rw [e1, sum_swap]
  have e2 : (q.map fun k => (q.map fun r : Go.KL.YtkojphmejddhiaaGreatDoor.Ac => if r.up = 0 ∧ isB (look q) k.code r.code = true then ownV f k.code else 0).sum) = q.map fun k => ownV f k.code := by
    refine List.map_congr_left fun k hk => ?_
    exact sum_one hnd (root_one hok hk)
  rw [e2]
  have h0 := h.zero
  rw [List.map_map] at h0
  exact h0
section
variable {X : List O} {tk : Tks} {lo bid cid kid mid : Nat} {ql ql' : AcL} {f : Slot → Option Int} {E : List Ent} {closed : Int}
theorem bk_kid (h : BkR X lo bid cid kid mid ql f E closed) {o' : O} (hch : Ch (look ql') o') (hok : OkQ ql') (hl : ql'.length < 1000000) : BkR (X.set kid o') lo bid cid kid mid ql' f E closed ∧ kid < X.length := by
  obtain ⟨vid, ety, hb, hv⟩ := h.b
  obtain ⟨oc, hk, hch0⟩ := h.k
  obtain ⟨om, hm, hf⟩ := h.m
  have hkl := (List.getElem?_eq_some_iff.1 hk).1
  have n1 : kid ≠ bid := fun hh => by rw [hh, hb] at hk; exact (ch_ne hch0).1 _ (Option.some.inj hk).symm
  have n2 : kid ≠ cid := fun hh => by rw [hh, h.c] at hk; exact (ch_ne hch0).1 _ (Option.some.inj hk).symm
  have n3 : kid ≠ mid := fun hh => by rw [hh, hm] at hk; exact (ch_ne hch0).2.2 f (Option.some.inj hk ▸ hf)
  refine ⟨⟨⟨vid, ety, by rw [List.getElem?_set_ne n1]; exact hb, fun hE => ?_⟩, by rw [List.getElem?_set_ne n2]; exact h.c, ⟨o', List.getElem?_set_self hkl, hch⟩, ⟨om, by rw [List.getElem?_set_ne n3]; exact hm, hf⟩, hok, hl, h.lo, h.I⟩, hkl⟩
  obtain ⟨v1, v2, v3⟩ := hv hE
  have n4 : kid ≠ vid := fun hh => by rw [hh, v1] at hk; exact (ch_ne hch0).2.1 _ _ _ (Option.some.inj hk).symm
  exact ⟨by rw [List.getElem?_set_ne n4]; exact v1, v2, v3⟩
theorem addK (h : BkR X lo bid cid kid mid ql f E closed) (a : Go.KL.YtkojphmejddhiaaGreatDoor.Ac) (hl : ql.length + 1 < 1000000) : ACalls E0 13 [.po cid 0, acD a] X tk (fun r X' tk' => (∃ n, r = .int .i64 n ∧ BkR X' lo bid cid kid mid (addR ql (dep (look ql) a.up) a) f E closed ∧ (∀ id, id ≠ kid → X'[id]? = X[id]?)) ∧ ((∀ id, id < lo → X'[id]? = X[id]?) ∧ lo ≤ X'.length) ∧ tk' = tk) := by
  obtain ⟨oc, hk, hch⟩ := h.k
  have he := h.ok.low.ends a.up
  obtain ⟨⟨okA, lenA⟩, chA⟩ := add_next (a := a) h.ok he
  have hd := add_hd (a := a) h.ok he
  have hn : dep (look ql) a.up < 1000000 := by have := depF_le (look ql) 8 a.up; unfold dep; omega
  refine (add_c hch h.c hk a _ hn hd).mono ?_
  rintro r S' tk' ⟨o', ⟨rfl, ch2⟩, rfl, rfl⟩
  obtain ⟨h1, h2⟩ := bk_kid h (chA _ ch2) okA (by omega)
  have := h.lo
  exact ⟨⟨_, rfl, h1, fun id hid => List.getElem?_set_ne (Ne.symm hid)⟩, ⟨fun id hi => List.getElem?_set_ne (by omega), by rw [List.length_set]; omega⟩, rfl⟩
theorem shutK (h : BkR X lo bid cid kid mid ql f E closed) (c : Int) : ACalls E0 14 [.po cid 0, .int .i64 c] X tk (fun r X' tk' => (∃ n, r = .int .i64 n ∧ BkR X' lo bid cid kid mid (if shutRE ql c = 0 then shR ql c else ql) f E closed ∧ (∀ id, id ≠ kid → X'[id]? = X[id]?)) ∧ ((∀ id, id < lo → X'[id]? = X[id]?) ∧ lo ≤ X'.length) ∧ tk' = tk) := by
  obtain ⟨oc, hk, hch⟩ := h.k
  obtain ⟨⟨okS, lenS⟩, chS⟩ := shut_next (c := c) h.ok
  have hlq := h.lq
  refine (shut_c hch h.c hk h.ok.keys (by rw [List.length_map]; exact h.lq) c (h.ok.und h.lq c)).mono ?_
  rintro r S' tk' ⟨o', ⟨rfl, ch2⟩, rfl, rfl⟩
  obtain ⟨h1, h2⟩ := bk_kid h (chS _ ch2) okS (by omega)
  have := h.lo
  exact ⟨⟨_, rfl, h1, fun id hid => List.getElem?_set_ne (Ne.symm hid)⟩, ⟨fun id hi => List.getElem?_set_ne (by omega), by rw [List.length_set]; omega⟩, rfl⟩
end
theorem stdB_len : stdB.length < 1000 := by have := std_ok0.2; unfold stdB; omega
theorem mod4 {w : Int} (h : 0 ≤ w ∧ w < 256) : w.tmod 4 = 0 ∨ w.tmod 4 = 1 ∨ w.tmod 4 = 2 ∨ w.tmod 4 = 3 := by
  rw [Int.tmod_eq_emod_of_nonneg h.1]; omega
end Go.KL.YtkojphmejddhiaaGreatDoor.J
namespace Go.KL.YtkojphmejddhiaaGreatDoor
open Go Go.KL Go.RowKit Go.Proofs
theorem c54 : cFun E0.P 54 = some ⟨48, [(2, none), (3, none), (4, none), (5, none)], .seq (.rg [⟨some 2, none, .mv (.k (.int .i64 0))⟩, ⟨some 3, none, .mv (.k (.int .i64 0))⟩, ⟨some 4, none, .mv (.k (.int .i64 0))⟩, ⟨some 5, none, .mv (.k (.int .i64 0))⟩]) (.seq (.seq (.rg [⟨some 8, none, .mv (.t 0)⟩, ⟨some 9, none, .bin .lss .leaf (.t 8) (.k (.int .i64 1))⟩, ⟨some 10, none, .mv (.t 9)⟩, ⟨some 11, some (10, false), .mv (.t 0)⟩, ⟨some 12, some (10, false), .bin .gtr .leaf (.t 11) (.k (.int .i64 3652059))⟩, ⟨some 13, none, .pick (.t 10) (.k (.bool true)) (.t 12)⟩]) (.cond (.t 13) (.seq (.rg [⟨some 2, none, .mv (.k (.int .i64 0))⟩, ⟨some 3, none, .mv (.k (.int .i64 0))⟩, ⟨some 4, none, .mv (.k (.int .i64 0))⟩, ⟨some 5, none, .mv (.k (.int .i64 2))⟩]) .ret) .skip)) (.seq (.rg [⟨some 14, none, .mv (.t 0)⟩, ⟨some 15, none, .bin .sub .leaf (.t 14) (.k (.int .i64 1))⟩, ⟨some 16, none, .bin .quo .leaf (.t 15) (.k (.int .i64 146097))⟩, ⟨some 17, none, .bin .mul .leaf (.t 16) (.k (.int .i64 400))⟩, ⟨some 18, none, .bin .add .leaf (.k (.int .i64 1)) (.t 17)⟩, ⟨some 6, none, .mv (.t 18)⟩, ⟨some 7, none, .mv (.k (.int .i64 1))⟩]) (.seq (.rg [⟨some 19, none, .mv (.t 0)⟩, ⟨some 20, none, .bin .sub .leaf (.t 19) (.k (.int .i64 1))⟩, ⟨some 21, none, .bin .rem .leaf (.t 20) (.k (.int .i64 146097))⟩, ⟨some 22, none, .bin .add .leaf (.t 21) (.k (.int .i64 1))⟩, ⟨some 0, none, .mv (.t 22)⟩]) (.seq (.block 0 (.loop (.seq (.seq (.rg [⟨some 23, none, .mv (.t 0)⟩, ⟨some 24, none, .mv (.t 6)⟩, ⟨some 25, none, .call 68 [.t 24]⟩, ⟨some 26, none, .bin .gtr .leaf (.t 23) (.t 25)⟩]) (.cond (.t 26) .skip (.exit 0))) (.block 1 (.seq (.rg [⟨some 27, none, .mv (.t 0)⟩, ⟨some 28, none, .mv (.t 6)⟩, ⟨some 29, none, .call 68 [.t 28]⟩, ⟨some 30, none, .bin .sub .leaf (.t 27) (.t 29)⟩, ⟨some 0, none, .mv (.t 30)⟩]) (.rg [⟨some 31, none, .mv (.t 6)⟩, ⟨some 32, none, .bin .add .leaf (.t 31) (.k (.int .i64 1))⟩, ⟨some 6, none, .mv (.t 32)⟩])))))) (.seq (.block 2 (.loop (.seq (.seq (.rg [⟨some 33, none, .mv (.t 0)⟩, ⟨some 34, none, .mv (.t 6)⟩, ⟨some 35, none, .mv (.t 7)⟩, ⟨some 36, none, .call 67 [.t 34, .t 35]⟩, ⟨some 37, none, .bin .gtr .leaf (.t 33) (.t 36)⟩]) (.cond (.t 37) .skip (.exit 2))) (.block 3 (.seq (.rg [⟨some 38, none, .mv (.t 0)⟩, ⟨some 39, none, .mv (.t 6)⟩, ⟨some 40, none, .mv (.t 7)⟩, ⟨some 41, none, .call 67 [.t 39, .t 40]⟩, ⟨some 42, none, .bin .sub .leaf (.t 38) (.t 41)⟩, ⟨some 0, none, .mv (.t 42)⟩]) (.rg [⟨some 43, none, .mv (.t 7)⟩, ⟨some 44, none, .bin .add .leaf (.t 43) (.k (.int .i64 1))⟩, ⟨some 7, none, .mv (.t 44)⟩])))))) (.seq (.rg [⟨some 45, none, .mv (.t 6)⟩, ⟨some 46, none, .mv (.t 7)⟩, ⟨some 47, none, .mv (.t 0)⟩, ⟨some 2, none, .mv (.t 45)⟩, ⟨some 3, none, .mv (.t 46)⟩, ⟨some 4, none, .mv (.t 47)⟩, ⟨some 5, none, .mv (.k (.int .i64 0))⟩]) .ret))))))⟩ := by kernel_rfl
theorem c29 : cFun E0.P 29 = some ⟨23, [(2, none), (3, none)], .seq (.rg [⟨some 2, none, .mv (.k (.int .i64 0))⟩, ⟨some 3, none, .mv (.k (.int .i64 0))⟩]) (.seq (.rg [⟨some 9, none, .mv (.t 0)⟩, ⟨some 10, none, .call 54 [.t 9]⟩, ⟨some 8, none, .mv (.t 10)⟩, ⟨some 11, none, .ext 0 (.t 8)⟩, ⟨some 12, none, .ext 1 (.t 8)⟩, ⟨some 13, none, .ext 2 (.t 8)⟩, ⟨some 14, none, .ext 3 (.t 8)⟩, ⟨some 4, none, .mv (.t 11)⟩, ⟨some 5, none, .mv (.t 12)⟩, ⟨some 6, none, .mv (.t 13)⟩, ⟨some 7, none, .mv (.t 14)⟩]) (.seq (.seq (.rg [⟨some 15, none, .mv (.t 7)⟩, ⟨some 16, none, .bin .neq .leaf (.t 15) (.k (.int .i64 0))⟩]) (.cond (.t 16) (.seq (.rg [⟨some 17, none, .mv (.t 7)⟩, ⟨some 2, none, .mv (.k (.int .i64 0))⟩, ⟨some 3, none, .mv (.t 17)⟩]) .ret) .skip)) (.seq (.rg [⟨some 18, none, .mv (.t 4)⟩, ⟨some 19, none, .mv (.t 5)⟩, ⟨some 20, none, .call 21 [.t 18, .t 19]⟩, ⟨some 21, none, .ext 0 (.t 20)⟩, ⟨some 22, none, .ext 1 (.t 20)⟩, ⟨some 2, none, .mv (.t 21)⟩, ⟨some 3, none, .mv (.t 22)⟩]) .ret)))⟩ := by kernel_rfl

def yB (y : Int) : Int := 365 * (y - 1) + (y - 1) / 4 - (y - 1) / 100 + (y - 1) / 400
def mB (y m : Int) : Int := aheadL[(m - 1).toNat]! + (if 2 < m ∧ leapB y = true then 1 else 0)
theorem bef_eq (y m : Int) : befI y m = yB y + mB y m := by unfold befI yB mB; omega
theorem leap_iff {y : Int} (h : 1 ≤ y ∧ y ≤ 9999) : leapB y = true ↔ (y % 4 = 0 ∧ (y % 100 ≠ 0 ∨ y % 400 = 0)) := by
  unfold leapB
  rw [decide_eq_true_eq, Int.tmod_eq_emod_of_nonneg (by omega), Int.tmod_eq_emod_of_nonneg (by omega), Int.tmod_eq_emod_of_nonneg (by omega)]
  omega
theorem yB_step {y : Int} (h : 1 ≤ y ∧ y ≤ 9999) : yB (y + 1) = yB y + yearI y := by
  have hl := leap_iff h
  unfold yB yearI
  by_cases hb : leapB y = true
  · rw [if_pos hb]
    have := hl.1 hb
    omega
  · rw [if_neg hb]
    have : ¬ (y % 4 = 0 ∧ (y % 100 ≠ 0 ∨ y % 400 = 0)) := fun h => hb (hl.2 h)
    omega
theorem mB_step {y m : Int} (hm : 1 ≤ m ∧ m ≤ 11) : mB y (m + 1) = mB y m + longI y m := by
  unfold mB longI
  have : m = 1 ∨ m = 2 ∨ m = 3 ∨ m = 4 ∨ m = 5 ∨ m = 6 ∨ m = 7 ∨ m = 8 ∨ m = 9 ∨ m = 10 ∨ m = 11 := by omega
  rcases this with rfl | rfl | rfl | rfl | rfl | rfl | rfl | rfl | rfl | rfl | rfl <;> cases leapB y <;> decide
theorem mB_12 (y : Int) : mB y 12 + longI y 12 = yearI y := by
  unfold mB longI yearI
  cases leapB y <;> decide
theorem mB_1 (y : Int) : mB y 1 = 0 := by
  unfold mB
  cases leapB y <;> decide
theorem fir_step {n : Int} (h : 1 ≤ n ∧ n < 119988) : firI (n + 1) = firI n + longI (yI n) (mI n) := by
  unfold firI
  rw [bef_eq, bef_eq]
  by_cases hm : mI n = 12
  · have e1 : yI (n + 1) = yI n + 1 := by unfold yI mI at *; omega
    have e2 : mI (n + 1) = 1 := by unfold mI at *; omega
    have h1 := yB_step (y := yI n) (by unfold yI; omega)
    have h2 := mB_12 (yI n)
    rw [e1, e2, hm, h1, mB_1]; omega
  · have e1 : yI (n + 1) = yI n := by unfold yI mI at *; omega
    have e2 : mI (n + 1) = mI n + 1 := by unfold mI at *; omega
    have h1 := mB_step (y := yI n) (m := mI n) (by unfold mI at *; omega)
    rw [e1, e2, h1]; omega
theorem fir_mono {n : Int} : ∀ (k : Nat), 1 ≤ n → n + k ≤ 119988 → firI n ≤ firI (n + k)
  | 0, _, _ => by rw [show n + ((0 : Nat) : Int) = n by omega]; exact Int.le_refl _
  | k + 1, h1, h2 => by
    have := fir_mono (n := n) k h1 (by omega)
    have h3 := fir_step (n := n + k) (by omega)
    have h4 := long_bd (yI (n + k)) (mI (n + k))
    rw [show n + ((k + 1 : Nat) : Int) = n + k + 1 by omega, h3]; omega
theorem fir_le {a b : Int} (h1 : 1 ≤ a) (h2 : a ≤ b) (h3 : b ≤ 119988) : firI a ≤ firI b := by
  have := fir_mono (n := a) (b - a).toNat h1 (by omega)
  rwa [show a + ((b - a).toNat : Int) = b by omega] at this
theorem srch_is (day n : Int) (hlo : ∀ k, 1 ≤ k → k ≤ n → firI k ≤ day) (hhi : ∀ k, n < k → k ≤ 119988 → day < firI k) : ∀ (f : Nat) (low high : Int), 1 ≤ low → high ≤ 119988 → low ≤ n → n ≤ high → high - low < 2 ^ f → srch day f low high = n
  | 0, low, high, _, _, h3, h4, h5 => by rw [srch]; simp at h5; omega
  | f + 1, low, high, h1, h2, h3, h4, h5 => by
    rw [srch]
    have hp2 : (2 : Int) ^ (f + 1) = 2 * 2 ^ f := by rw [Int.pow_succ]; omega
    rw [hp2] at h5
    obtain ⟨pw, hpw⟩ : ∃ pw : Int, pw = 2 ^ f := ⟨_, rfl⟩
    rw [← hpw] at h5
    split
    · omega
    · split
      · rename_i hc
        have hm : (low + high + 1) / 2 ≤ n := Int.not_lt.1 fun hh => by have := hhi _ hh (by omega); omega
        refine srch_is day n hlo hhi f _ _ (by omega) h2 hm h4 (by rw [← hpw]; omega)
      · rename_i hc
        have hm : n ≤ (low + high + 1) / 2 - 1 := by
          have : ¬ (low + high + 1) / 2 ≤ n := fun hh => hc (hlo _ (by omega) hh)
          omega
        refine srch_is day n hlo hhi f _ _ h1 (by omega) h3 hm (by rw [← hpw]; omega)
theorem ofI_is {day n : Int} (h1 : 1 ≤ n ∧ n ≤ 119988) (h2 : firI n ≤ day) (h3 : n < 119988 → day < firI (n + 1)) : ofI day = n := by
  refine srch_is day n (fun k hk1 hk2 => ?_) (fun k hk1 hk2 => ?_) 17 1 119988 (by omega) (by omega) h1.1 h1.2 (by decide)
  · have := fir_le hk1 hk2 h1.2; omega
  · have := fir_le (a := n + 1) (b := k) (by omega) (by omega) hk2
    have := h3 (by omega); omega
structure DtS where
  y : Int
  d : Int
set_option maxHeartbeats 2000000 in
theorem date (day : Int) (hd : 1 ≤ day ∧ day ≤ 3652059) (S : List O) (tk : Tks) : ACalls E0 54 [.int .i64 day] S tk (fun r S' tk' => (∃ y m d, r = .tup [.int .i64 y, .int .i64 m, .int .i64 d, .int .i64 0] ∧ (1 ≤ y ∧ y ≤ 9999) ∧ (1 ≤ m ∧ m ≤ 12) ∧ 12 * (y - 1) + m = ofI day) ∧ S' = S ∧ tk' = tk) := by
  have w0 : IntKind.wrap .i64 (day - 1) = day - 1 := wi64_id (by unfold I64; omega)
  have e1 : (day - 1).tdiv 146097 = (day - 1) / 146097 := Int.tdiv_eq_ediv_of_nonneg (by omega)
  have e2 : (day - 1).tmod 146097 = (day - 1) % 146097 := Int.tmod_eq_emod_of_nonneg (by omega)
  obtain ⟨y0, hy0⟩ : ∃ y, y = 1 + (day - 1) / 146097 * 400 := ⟨_, rfl⟩
  obtain ⟨d0, hd0⟩ : ∃ d, d = (day - 1) % 146097 + 1 := ⟨_, rfl⟩
  have hyw : IntKind.wrap .i64 (1 + IntKind.wrap .i64 (IntKind.wrap .i64 ((IntKind.wrap .i64 (day - 1)).tdiv 146097) * 400)) = y0 := by
    rw [w0, e1, wi64_id (n := (day - 1) / 146097) (by unfold I64; omega), wi64_id (n := (day - 1) / 146097 * 400) (by unfold I64; omega), wi64_id (by unfold I64; omega), hy0]
  have hdw : IntKind.wrap .i64 ((IntKind.wrap .i64 (day - 1)).tmod 146097 + 1) = d0 := by
    rw [w0, e2, wi64_id (by unfold I64; omega), hd0]
  have hyb : d0 + yB y0 = day ∧ 1 ≤ y0 ∧ y0 ≤ 9601 ∧ 1 ≤ d0 := by
    unfold yB; omega
  have hmax := yB_step (y := 9999) (by omega)
  have hmx : yB (9999 + 1) = 3652059 := by decide
  rw [hmx] at hmax
  refine ACalls.fgo c54 rfl fun hS => ?_
  repeat' first | with_reducible refine fzD_ite (fun q => ?_) (fun q => ?_) | ((try conv => whnf); first | refine bs_f (decide_eq_false (show ¬ day < 1 by omega)) ?_ | refine bs_f (decide_eq_false (show ¬ day > 3652059 by omega)) ?_ | refine bs_d (fun q => ?_) (fun q => ?_) | refine bs_n ?_ | refine bs_i (fun q => ?_) (fun q => ?_) | refine eqk rfl ?_ | refine ffin _ rfl rfl hS (Sub.refl _) rfl ⟨?_, rfl, rfl⟩)
  conv => whnf
  refine floop (α := DtS) rfl rfl hS (fun s => 1 ≤ s.y ∧ s.y ≤ 9999 ∧ 1 ≤ s.d ∧ s.d + yB s.y = day) (fun s => (10000 - s.y).toNat) (fun s => [(6, .d (.int .i64 s.y)), (0, .d (.int .i64 s.d)), (7, .d (.int .i64 1))]) (fun _ => []) (fun _ => []) ⟨y0, d0⟩ ⟨by simp only; omega, by simp only; omega, by simp only; omega, by simp only; omega⟩ (fstep_sub ⟨Sub.int hyw, Sub.int hdw, Sub.refl _, trivial⟩) ?_
  rintro ⟨y, d⟩ ⟨h1, h2, h3, h4⟩
  simp only at h1 h2 h3 h4 ⊢
  have hyr := year y
  have hyd := year_bd y
  have hyp : 0 ≤ yB y := by unfold yB; omega
  by_cases hc : d > yearI y
  · have hs := yB_step (y := y) ⟨h1, h2⟩
    have h9 : y ≠ 9999 := fun hh => by subst hh; omega
    repeat' first | with_reducible refine fzD_ite (fun q => ?_) (fun q => ?_) | ((try conv => whnf); first | refine bs_t (decide_eq_true hc) ?_ | refine bs_d (fun q => ?_) (fun q => ?_) | refine bs_n ?_ | refine bs_i (fun q => ?_) (fun q => ?_) | refine ckz (hyr) ?_ | refine cq (hyr) ?_ | refine eqk rfl ?_ | refine ffin _ rfl rfl hS (Sub.refl _) rfl ⟨?_, rfl, rfl⟩)
    conv => whnf
    exact fnext (α := DtS) ⟨y + 1, d - yearI y⟩ ⟨by simp only; omega, by simp only; omega, by simp only; omega, by simp only; omega⟩ (by simp only; omega) (fstep_sub ⟨Sub.int (by first | rfl | omega | (refine Int.sub_eq_zero.mp ?_; simp (disch := ((try unfold I64); omega)) only [wi64_id, td]; omega)), Sub.int (wi64_id (by unfold I64; omega)), Sub.refl _, trivial⟩)
  repeat' first | with_reducible refine fzD_ite (fun q => ?_) (fun q => ?_) | ((try conv => whnf); first | refine bs_f (decide_eq_false hc) ?_ | refine bs_d (fun q => ?_) (fun q => ?_) | refine bs_n ?_ | refine bs_i (fun q => ?_) (fun q => ?_) | refine ckz (hyr) ?_ | refine cq (hyr) ?_ | refine eqk rfl ?_ | refine ffin _ rfl rfl hS (Sub.refl _) rfl ⟨?_, rfl, rfl⟩)
  conv => whnf
  refine floop (α := DtS) rfl rfl hS (fun s => 1 ≤ s.y ∧ s.y ≤ 12 ∧ 1 ≤ s.d ∧ s.d + mB y s.y = d) (fun s => (12 - s.y).toNat) (fun s => [(7, .d (.int .i64 s.y)), (0, .d (.int .i64 s.d)), (6, .d (.int .i64 y))]) (fun _ => []) (fun _ => []) ⟨1, d⟩ ⟨by simp only; omega, by simp only; omega, by simp only; omega, by simp only; rw [mB_1]; omega⟩ (fstep_sub ⟨Sub.refl _, Sub.refl _, Sub.refl _, trivial⟩) ?_
  rintro ⟨m, e⟩ ⟨k1, k2, k3, k4⟩
  simp only at k1 k2 k3 k4 ⊢
  have hlg := long y m
  have hlb := long_bd y m
  have hmp : 0 ≤ mB y m := by
    have := ahead_bd (k := (m - 1).toNat) (by omega)
    unfold mB
    split <;> omega
  by_cases hc2 : e > longI y m
  · have h12 : m ≠ 12 := fun hh => by
      subst hh
      have := mB_12 y
      omega
    have hs := mB_step (y := y) (m := m) ⟨k1, by omega⟩
    repeat' first | with_reducible refine fzD_ite (fun q => ?_) (fun q => ?_) | ((try conv => whnf); first | refine bs_t (decide_eq_true hc2) ?_ | refine bs_d (fun q => ?_) (fun q => ?_) | refine bs_n ?_ | refine bs_i (fun q => ?_) (fun q => ?_) | refine ckz (hlg) ?_ | refine cq (hlg) ?_ | refine eqk rfl ?_ | refine ffin _ rfl rfl hS (Sub.refl _) rfl ⟨?_, rfl, rfl⟩)
    conv => whnf
    exact fnext (α := DtS) ⟨m + 1, e - longI y m⟩ ⟨by simp only; omega, by simp only; omega, by simp only; omega, by simp only; omega⟩ (by simp only; omega) (fstep_sub ⟨Sub.int (by first | rfl | omega | (refine Int.sub_eq_zero.mp ?_; simp (disch := ((try unfold I64); omega)) only [wi64_id, td]; omega)), Sub.int (wi64_id (by unfold I64; omega)), Sub.refl _, trivial⟩)
  · have ey : yI (12 * (y - 1) + m) = y := by unfold yI; omega
    have em : mI (12 * (y - 1) + m) = m := by unfold mI; omega
    have hof : 12 * (y - 1) + m = ofI day := by
      refine (ofI_is (n := 12 * (y - 1) + m) (by omega) ?_ fun hn => ?_).symm
      · unfold firI; rw [ey, em, bef_eq]; omega
      · rw [fir_step ⟨by omega, hn⟩, ey, em]; unfold firI; rw [ey, em, bef_eq]; omega
    repeat' first | with_reducible refine fzD_ite (fun q => ?_) (fun q => ?_) | ((try conv => whnf); first | refine bs_f (decide_eq_false hc2) ?_ | refine bs_d (fun q => ?_) (fun q => ?_) | refine bs_n ?_ | refine bs_i (fun q => ?_) (fun q => ?_) | refine ckz (hlg) ?_ | refine cq (hlg) ?_ | refine ffin _ rfl rfl hS (Sub.refl _) rfl ⟨⟨y, m, e, ?_, ⟨h1, h2⟩, ⟨k1, k2⟩, hof⟩, rfl, rfl⟩ | refine eqk rfl ?_ | refine ffin _ rfl rfl hS (Sub.refl _) rfl ⟨?_, rfl, rfl⟩)
    all_goals rfl
theorem of2 (day : Int) : Pure 29 [.int .i64 day] (if 1 ≤ day ∧ day ≤ 3652059 then .tup [.int .i64 (ofI day), .int .i64 0] else .tup [.int .i64 0, .int .i64 2]) := by
  intro S tk
  by_cases hd : 1 ≤ day ∧ day ≤ 3652059
  · rw [if_pos hd]
    refine ACalls.fgo c29 rfl fun hS => ?_
    repeat' first | with_reducible refine fzD_ite (fun q => ?_) (fun q => ?_) | ((try conv => whnf); first | refine bs_d (fun q => ?_) (fun q => ?_) | refine bs_n ?_ | refine bs_i (fun q => ?_) (fun q => ?_) | (refine ckE (G := fun r => ∃ y m d, r = .tup [.int .i64 y, .int .i64 m, .int .i64 d, .int .i64 0] ∧ (1 ≤ y ∧ y ≤ 9999) ∧ (1 ≤ m ∧ m ≤ 12) ∧ 12 * (y - 1) + m = ofI day) rfl rfl (date day hd) (SubL.refl _) ?_; rintro r ⟨y, m, d, rfl, hy, hm, hof⟩; have hmo := monthD y m hy hm; rw [hof] at hmo) | refine ckz (hmo) ?_ | refine cq (hmo) ?_ | refine eqk rfl ?_ | refine ffin _ rfl rfl hS (Sub.refl _) rfl ⟨?_, rfl, rfl⟩)
    all_goals rfl
  · rw [if_neg hd]
    have hdt : Pure 54 [.int .i64 day] (.tup [.int .i64 0, .int .i64 0, .int .i64 0, .int .i64 2]) := by
      intro S tk
      refine ACalls.fgo c54 rfl fun hS => ?_
      repeat' first | with_reducible refine fzD_ite (fun q => ?_) (fun q => ?_) | ((try conv => whnf); first | refine bs_d (fun q => ?_) (fun q => ?_) | refine bs_n ?_ | refine bs_i (fun q => ?_) (fun q => ?_) | refine eqk rfl ?_ | refine ffin _ rfl rfl hS (Sub.refl _) rfl ⟨?_, rfl, rfl⟩)
      all_goals first | rfl | (exfalso; omega)
    refine ACalls.fgo c29 rfl fun hS => ?_
    repeat' first | with_reducible refine fzD_ite (fun q => ?_) (fun q => ?_) | ((try conv => whnf); first | refine bs_d (fun q => ?_) (fun q => ?_) | refine bs_n ?_ | refine bs_i (fun q => ?_) (fun q => ?_) | refine ckz (hdt) ?_ | refine cq (hdt) ?_ | refine eqk rfl ?_ | refine ffin _ rfl rfl hS (Sub.refl _) rfl ⟨?_, rfl, rfl⟩)
    all_goals rfl
end Go.KL.YtkojphmejddhiaaGreatDoor
namespace Go.KL.YtkojphmejddhiaaGreatDoor.J
open Go Go.KL Go.RowKit Go.Proofs Go.KL.YtkojphmejddhiaaGreatDoor
theorem scLL_entR (n m : Nat) : ∀ l : List Ent, scLL n m (entR l) = true
  | [] => rfl
  | x :: l => by
    have h := scLL_entR n m l
    unfold entR at h ⊢
    simp only [List.map_cons, scLL, h, Bool.and_true]
    simp [entC, scL, D.sc, scLL_lns]
def isW (s : Slot) (day : Int) (x : Ln) : Bool := decide (x.acc = s.1) && (if s.2.1 = 1 then decide (x.cus = s.2.2) else if s.2.1 = 2 then decide (x.con = s.2.2) else if s.2.1 = 3 then decide (ofI day = s.2.2) else true)
structure SlR (s : Slot) : Prop where
  k : s.2.1 = 0 ∨ s.2.1 = 1 ∨ s.2.1 = 2 ∨ s.2.1 = 3
  z : s.2.1 = 0 → s.2.2 = 0
theorem slotK_R (day : Int) (x : Ln) : ∀ k, k < 4 → SlR (slotK day x k)
  | 0, _ => ⟨by simp [slotK], by simp [slotK]⟩
  | 1, _ => ⟨by simp [slotK], by simp [slotK]⟩
  | 2, _ => ⟨by simp [slotK], by simp [slotK]⟩
  | 3, _ => ⟨by simp [slotK], by simp [slotK]⟩
def sumE (s : Slot) (e : Ent) : List Int := (e.L.filter (isW s e.day)).map Ln.amt
def sumL (E : List Ent) (s : Slot) : List Int := E.flatMap (sumE s)
theorem amtsT_sLn (t s : Slot) (n : Int) (l : List Ln) : amtsT (sLn t n :: l) s = (if t = s then [n] else []) ++ amtsT l s := by
  unfold amtsT
  rw [List.filter_cons, sLn_t]
  by_cases h : t = s <;> simp [h, sLn]
theorem flat4_is {s : Slot} (hs : SlR s) (day : Int) : ∀ L : List Ln, (L.filter (isW s day)).map Ln.amt = amtsT (flat4 day L) s
  | [] => rfl
  | x :: L => by
    have ih := flat4_is hs day L
    unfold flat4 at ih ⊢
    rw [List.flatMap_cons, amtsT_app, ← ih, List.filter_cons]
    obtain ⟨a, k, i⟩ := s
    have hk := hs.k
    have hz := hs.z
    simp only at hk hz
    have e0 : amtsT ([] : List Ln) (a, k, i) = [] := rfl
    simp only [amtsT_sLn, e0, isW, slotK, Prod.mk.injEq]
    rcases hk with rfl | rfl | rfl | rfl
    · obtain rfl := hz rfl
      by_cases h : x.acc = a <;> simp [h]
    · by_cases h : x.acc = a <;> by_cases h2 : x.cus = i <;> simp [h, h2]
    · by_cases h : x.acc = a <;> by_cases h2 : x.con = i <;> simp [h, h2]
    · by_cases h : x.acc = a <;> by_cases h2 : ofI day = i <;> simp [h, h2]
theorem sumE_is {s : Slot} (hs : SlR s) (e : Ent) : sumE s e = amtsT (adL e) s := flat4_is hs e.day e.L
def TotI (f : Slot → Option Int) (E : List Ent) : Prop := ∀ s, SlR s → (f s).getD 0 = (sumL E s).sum
theorem TotI.none : TotI noneF [] := fun s _ => rfl
theorem sumL_snoc (E : List Ent) (e : Ent) (s : Slot) : sumL (E ++ [e]) s = sumL E s ++ sumE s e := by simp [sumL]
theorem TotI.post {ql : AcL} {f : Slot → Option Int} {cl : Int} {E : List Ent} {e : Ent} (h : TotI f E) : TotI (nextF ql f cl e) (nextE ql f cl E e) := by
  unfold nextF nextE
  split
  · intro s hs
    rw [post_val, sumL_snoc, List.sum_append, ← h s hs, sumE_is hs]; omega
  · exact h
theorem newV_tot {f : Slot → Option Int} {E : List Ent} (h : TotI f E) {s : Slot} (hs : SlR s) (e : Ent) : newV (adL e) f noneF s = (sumL (E ++ [e]) s).sum := by
  rw [sumL_snoc, List.sum_append, ← h s hs, sumE_is hs]
  unfold newV wasV noneF
  simp only [Option.getD_none]; omega
structure EnOk (E : List Ent) : Prop where
  R : ∀ e ∈ E, e.R
  hd : ∀ e ∈ E, e.hd
  len : E.length ≤ 1000
theorem nextE_hd {ql : AcL} {f : Slot → Option Int} {cl : Int} {E : List Ent} {e : Ent} (h : ∀ x ∈ E, x.R ∧ x.hd) (hR : e.R) : ∀ x ∈ nextE ql f cl E e, x.R ∧ x.hd := by
  unfold nextE
  split
  · rename_i h0
    obtain ⟨hon, _⟩ := post0_inv h0
    have hc : e.chk = 0 := Classical.byContradiction fun h => by rw [onN, if_neg h] at hon; exact h hon
    intro x hx
    rcases List.mem_append.1 hx with hx | hx
    · exact h x hx
    · rw [List.mem_singleton.1 hx]; exact ⟨hR, (Ent.chk_0 hc).1⟩
  · exact h
theorem sumE_len {s : Slot} {e : Ent} : (sumE s e).length ≤ e.L.length := by
  unfold sumE; rw [List.length_map]; exact List.length_filter_le ..
theorem sumL_len {s : Slot} : ∀ {E : List Ent}, (∀ e ∈ E, e.hd) → (sumL E s).length ≤ 64 * E.length
  | [], _ => Nat.zero_le _
  | e :: E, h => by
    have h1 := sumL_len (s := s) fun x hx => h x (List.mem_cons_of_mem _ hx)
    have h2 := sumE_len (s := s) (e := e)
    have h3 := h e (List.mem_cons_self ..)
    unfold Ent.hd at h3
    unfold sumL at h1 ⊢
    rw [List.flatMap_cons, List.length_append, List.length_cons]; omega
theorem sumL_I {s : Slot} {E : List Ent} (h : ∀ e ∈ E, e.R) : ∀ n ∈ sumL E s, I64 n := by
  intro n hn
  obtain ⟨e, he, hn⟩ := List.mem_flatMap.1 hn
  obtain ⟨x, hx, rfl⟩ := List.mem_map.1 hn
  exact ((h e he).L x (List.mem_filter.1 hx).1).amt
theorem c16 : cFun E0.P 16 = some ⟨38, [(4, some (4, true)), (5, none)], .seq (.rg [⟨some 4, none, .alloc [.int .i64 0, .int .u8 0, .int .u64 0, .nilsl] 35⟩, ⟨some 5, none, .mv (.k (.int .i64 0))⟩]) (.seq (.block 0 (.seq (.rg [⟨some 8, none, .mv (.t 0)⟩, ⟨some 9, none, .call 33 [.t 8]⟩, ⟨some 7, none, .mv (.t 9)⟩]) (.cond (.t 7) (.seq (.rg [⟨some 10, none, .build [.int .i64 0, .int .u8 0, .int .u64 0, .nilsl] []⟩, ⟨none, none, .st 4 (.t 4) (.t 10)⟩, ⟨some 5, none, .mv (.k (.int .i64 1))⟩]) .ret) (.seq (.rg [⟨some 12, none, .mv (.t 1)⟩, ⟨some 13, none, .bin .lss .leaf (.t 12) (.k (.int .u64 1))⟩, ⟨some 14, none, .mv (.t 13)⟩, ⟨some 15, some (14, false), .mv (.t 1)⟩, ⟨some 16, some (14, false), .mv (.t 0)⟩, ⟨some 17, some (14, false), .nilck (.t 16)⟩, ⟨some 18, some (14, false), .fa 1 (.t 17)⟩, ⟨some 19, some (14, false), .ld 1 false (.t 18)⟩, ⟨some 20, some (14, false), .len 1 (.t 19)⟩, ⟨some 21, some (14, false), .conv .u64 (.t 20)⟩, ⟨some 22, some (14, false), .bin .gtr .leaf (.t 15) (.t 21)⟩, ⟨some 23, none, .pick (.t 14) (.k (.bool true)) (.t 22)⟩, ⟨some 11, none, .mv (.t 23)⟩]) (.cond (.t 11) (.seq (.rg [⟨some 24, none, .build [.int .i64 0, .int .u8 0, .int .u64 0, .nilsl] []⟩, ⟨none, none, .st 4 (.t 4) (.t 24)⟩, ⟨some 5, none, .mv (.k (.int .i64 7))⟩]) .ret) .skip))))) (.seq (.rg [⟨some 25, none, .mv (.t 0)⟩, ⟨some 26, none, .nilck (.t 25)⟩, ⟨some 27, none, .fa 1 (.t 26)⟩, ⟨some 28, none, .ld 1 false (.t 27)⟩, ⟨some 29, none, .mv (.t 1)⟩, ⟨some 30, none, .bin .sub .leaf (.t 29) (.k (.int .u64 1))⟩, ⟨some 31, none, .ia 4 (.t 28) (.t 30)⟩, ⟨some 32, none, .ld 4 true (.t 31)⟩, ⟨some 6, none, .alloc [.int .i64 0, .int .u8 0, .int .u64 0, .nilsl] 35⟩, ⟨none, none, .st 4 (.t 6) (.t 32)⟩]) (.seq (.rg [⟨some 33, none, .fa 3 (.t 6)⟩, ⟨some 34, none, .ld 1 false (.t 33)⟩, ⟨some 35, none, .call 36 [.t 34]⟩, ⟨some 36, none, .fa 3 (.t 6)⟩, ⟨none, none, .st 1 (.t 36) (.t 35)⟩]) (.seq (.rg [⟨some 37, none, .ld 4 true (.t 6)⟩, ⟨none, none, .st 4 (.t 4) (.t 37)⟩, ⟨some 5, none, .mv (.k (.int .i64 0))⟩]) .ret))))⟩ := by kernel_rfl

section
variable {X : List O} {tk : Tks} {lo bid cid kid mid : Nat} {ql : AcL} {f : Slot → Option Int} {E : List Ent} {closed : Int}
theorem entry_no (h : BkR X lo bid cid kid mid ql f E closed) (hE : E.length < 1000000) (n : Int) (hn : 0 ≤ n) (hbad : n < 1 ∨ (E.length : Int) < n) :
    ACalls E0 16 [.po bid 0, .int .u64 n] X tk (fun r S' tk' => r = .tup [.agg [.int .i64 0, .int .u8 0, .int .u64 0, .nilsl], .int .i64 7] ∧ S' = X ∧ tk' = tk) := by
  obtain ⟨vid, ety, hb, hv⟩ := h.b
  obtain ⟨m, hm⟩ : ∃ m, m = E.length := ⟨_, rfl⟩
  rw [← hm] at hb hbad hE
  cases m with
  | zero =>
    refine ACalls.fgo c16 rfl fun hS => ?_
    repeat' first | with_reducible refine fzD_ite (fun q => ?_) (fun q => ?_) | ((try conv => whnf); first | refine bs_d (fun q => ?_) (fun q => ?_) | refine bs_n ?_ | refine bs_i (fun q => ?_) (fun q => ?_) | refine ckA rfl rfl (none_b (at_old hb)) ?_ | refine pK_i (ldO_old hb rfl) ?_ | refine eqk rfl ?_ | refine ffin _ rfl rfl hS (Sub.refl _) rfl ⟨?_, rfl, rfl⟩)
    all_goals first
      | rfl
      | (exfalso
         have hw : IntKind.wrap .u64 ((([] : List (List D)).length : Nat) : Int) = 0 := rfl
         simp only [hw] at *
         omega)
  | succ m =>
    have hw : IntKind.wrap .u64 ((m + 1 : Nat) : Int) = ((m + 1 : Nat) : Int) := wu64_id (by unfold U64; omega)
    refine ACalls.fgo c16 rfl fun hS => ?_
    repeat' first | with_reducible refine fzD_ite (fun q => ?_) (fun q => ?_) | ((try conv => whnf); first | refine bs_t (decide_eq_true (show n > IntKind.wrap .u64 ((m + 1 : Nat) : Int) by rw [hw]; omega)) ?_ | refine bs_d (fun q => ?_) (fun q => ?_) | refine bs_n ?_ | refine bs_i (fun q => ?_) (fun q => ?_) | refine ckA rfl rfl (none_b (at_old hb)) ?_ | refine pK_i (ldO_old hb rfl) ?_ | refine eqk rfl ?_ | refine ffin _ rfl rfl hS (Sub.refl _) rfl ⟨?_, rfl, rfl⟩)
    all_goals first
      | rfl
      | (exfalso
         simp only [hw] at *
         omega)
theorem entry_ok (h : BkR X lo bid cid kid mid ql f E closed) (hE : E.length < 1000000) {i : Nat} {e : Ent} (he : E[i]? = some e) (h0 : e.L ≠ []) (hl : e.L.length < 1000000) {n : Int} (hn : n = ((i + 1 : Nat) : Int)) :
    ACalls E0 16 [.po bid 0, .int .u64 n] X tk (fun r S' tk' => r = .tup [e.d, .int .i64 0] ∧ S' = X ∧ tk' = tk) := by
  obtain ⟨vid, ety, hb, hv⟩ := h.b
  have hi : i < E.length := (List.getElem?_eq_some_iff.1 he).1
  obtain ⟨v1, rfl, v3⟩ := hv (fun hh => by rw [hh] at hi; simp at hi)
  obtain ⟨m, hm⟩ : ∃ m, m + 1 = E.length := ⟨E.length - 1, by omega⟩
  rw [← hm] at hb
  have hlen : (entR E).length = m + 1 := by simp [entR, hm]
  have hat : (entR E)[i]? = some (entC e) := by rw [entR, List.getElem?_map, he]; rfl
  have hcn := clone_sl e.L h0 hl
  have hw : IntKind.wrap .u64 ((m + 1 : Nat) : Int) = ((m + 1 : Nat) : Int) := wu64_id (by unfold U64; omega)
  have hw2 : IntKind.wrap .u64 (n - 1) = (i : Int) := by rw [wu64_id (by unfold U64; omega)]; omega
  refine ACalls.fgo c16 rfl fun hS => ?_
  repeat' first | with_reducible refine fzD_ite (fun q => ?_) (fun q => ?_) | ((try conv => whnf); first | refine bs_f (decide_eq_false (show ¬ n < 1 by omega)) ?_ | refine bs_f (decide_eq_false (show ¬ n > IntKind.wrap .u64 ((m + 1 : Nat) : Int) by rw [hw]; omega)) ?_ | refine bs_d (fun q => ?_) (fun q => ?_) | refine bs_n ?_ | refine bs_i (fun q => ?_) (fun q => ?_) | refine ckA rfl rfl (none_b (at_old hb)) ?_ | refine pK_i (ldO_old hb rfl) ?_ | refine pK_i (iaD_vecN (k := i) hw2 (by omega)) ?_ | refine pK_i (ldV_old v1 hlen hat rfl) ?_ | refine ckz (hcn) ?_ | refine cq (hcn) ?_ | refine ffin _ rfl rfl hS (Sub.refl _) (by simp [tupD, D.sc, scL, scLL_lns]) ⟨?_, rfl, rfl⟩ | refine eqk rfl ?_ | refine ffin _ rfl rfl hS (Sub.refl _) rfl ⟨?_, rfl, rfl⟩)
  all_goals rfl
end
theorem c66 : cFun E0.P 66 = some ⟨43, [(6, none)], .seq (.rg [⟨some 3, none, .box (.t 0) 99⟩, ⟨some 4, none, .box (.t 1) 35⟩, ⟨some 5, none, .box (.t 2) 85⟩, ⟨some 6, none, .mv (.k (.bool false))⟩]) (.seq (.seq (.rg [⟨some 9, none, .fa 0 (.t 5)⟩, ⟨some 10, none, .ld 1 false (.t 9)⟩, ⟨some 11, none, .fa 0 (.t 3)⟩, ⟨some 12, none, .ld 1 false (.t 11)⟩, ⟨some 13, none, .bin .neq .leaf (.t 10) (.t 12)⟩]) (.cond (.t 13) (.seq (.rg [⟨some 6, none, .mv (.k (.bool false))⟩]) .ret) .skip)) (.seq (.seq (.rg [⟨some 14, none, .fa 1 (.t 3)⟩, ⟨some 15, none, .ld 1 false (.t 14)⟩]) (.block 0 (.seq (.rg [⟨some 17, none, .bin .eql .leaf (.t 15) (.k (.int .i64 1))⟩, ⟨some 16, none, .mv (.t 17)⟩]) (.cond (.t 16) (.seq (.rg [⟨some 18, none, .fa 1 (.t 5)⟩, ⟨some 19, none, .ld 1 false (.t 18)⟩, ⟨some 20, none, .fa 2 (.t 3)⟩, ⟨some 21, none, .ld 1 false (.t 20)⟩, ⟨some 22, none, .bin .eql .leaf (.t 19) (.t 21)⟩, ⟨some 6, none, .mv (.t 22)⟩]) .ret) (.seq (.rg [⟨some 24, none, .bin .eql .leaf (.t 15) (.k (.int .i64 2))⟩, ⟨some 23, none, .mv (.t 24)⟩]) (.cond (.t 23) (.seq (.rg [⟨some 25, none, .fa 2 (.t 5)⟩, ⟨some 26, none, .ld 1 false (.t 25)⟩, ⟨some 27, none, .fa 2 (.t 3)⟩, ⟨some 28, none, .ld 1 false (.t 27)⟩, ⟨some 29, none, .bin .eql .leaf (.t 26) (.t 28)⟩, ⟨some 6, none, .mv (.t 29)⟩]) .ret) (.seq (.rg [⟨some 31, none, .bin .eql .leaf (.t 15) (.k (.int .i64 3))⟩, ⟨some 30, none, .mv (.t 31)⟩]) (.cond (.t 30) (.seq (.rg [⟨some 33, none, .fa 0 (.t 4)⟩, ⟨some 34, none, .ld 1 false (.t 33)⟩, ⟨some 35, none, .call 29 [.t 34]⟩, ⟨some 32, none, .mv (.t 35)⟩, ⟨some 36, none, .ext 0 (.t 32)⟩, ⟨some 37, none, .ext 1 (.t 32)⟩, ⟨some 7, none, .mv (.t 36)⟩, ⟨some 8, none, .mv (.t 37)⟩]) (.seq (.rg [⟨some 38, none, .mv (.t 7)⟩, ⟨some 39, none, .conv .u64 (.t 38)⟩, ⟨some 40, none, .fa 2 (.t 3)⟩, ⟨some 41, none, .ld 1 false (.t 40)⟩, ⟨some 42, none, .bin .eql .leaf (.t 39) (.t 41)⟩, ⟨some 6, none, .mv (.t 42)⟩]) .ret)) .skip)))))))) (.seq (.rg [⟨some 6, none, .mv (.k (.bool true))⟩]) .ret)))⟩ := by kernel_rfl
theorem c45 : cFun E0.P 45 = some ⟨55, [(4, none), (5, none)], .seq (.rg [⟨some 3, none, .box (.t 1) 99⟩, ⟨some 4, none, .mv (.k (.int .i64 0))⟩, ⟨some 5, none, .mv (.k (.bool false))⟩]) (.seq (.rg [⟨some 6, none, .mv (.k .nilsl)⟩]) (.seq (.seq (.rg [⟨some 7, none, .mv (.k (.int .i64 0))⟩]) (.block 0 (.loop (.seq (.seq (.rg [⟨some 9, none, .mv (.t 7)⟩, ⟨some 10, none, .mv (.t 0)⟩, ⟨some 11, none, .len 1 (.t 10)⟩, ⟨some 12, none, .bin .lss .leaf (.t 9) (.t 11)⟩]) (.cond (.t 12) .skip (.exit 0))) (.seq (.block 1 (.seq (.rg [⟨some 8, none, .mv (.k (.int .i64 0))⟩]) (.block 2 (.loop (.seq (.seq (.rg [⟨some 15, none, .mv (.t 8)⟩, ⟨some 16, none, .mv (.t 0)⟩, ⟨some 17, none, .mv (.t 7)⟩, ⟨some 18, none, .ia 4 (.t 16) (.t 17)⟩, ⟨some 19, none, .fa 3 (.t 18)⟩, ⟨some 20, none, .ld 1 false (.t 19)⟩, ⟨some 21, none, .len 1 (.t 20)⟩, ⟨some 22, none, .bin .lss .leaf (.t 15) (.t 21)⟩]) (.cond (.t 22) .skip (.exit 2))) (.seq (.block 3 (.seq (.rd [(⟨some 25, none, .ld 3 true (.t 3)⟩, none), (⟨some 26, none, .mv (.t 0)⟩, none), (⟨some 27, none, .mv (.t 7)⟩, none), (⟨some 28, none, .ia 4 (.t 26) (.t 27)⟩, none), (⟨some 29, none, .ld 4 true (.t 28)⟩, none), (⟨some 30, none, .mv (.t 0)⟩, none), (⟨some 31, none, .mv (.t 7)⟩, none), (⟨some 32, none, .ia 4 (.t 30) (.t 31)⟩, none), (⟨some 33, none, .fa 3 (.t 32)⟩, none), (⟨some 34, none, .ld 1 false (.t 33)⟩, none), (⟨some 35, none, .mv (.t 8)⟩, none), (⟨some 36, none, .ia 4 (.t 34) (.t 35)⟩, none), (⟨some 37, none, .ld 4 true (.t 36)⟩, none), (⟨some 38, none, .call 66 [.t 25, .t 29, .t 37]⟩, some [])]) (.cond (.t 38) (.rg [⟨some 39, none, .mv (.t 6)⟩, ⟨some 40, none, .mv (.t 0)⟩, ⟨some 41, none, .mv (.t 7)⟩, ⟨some 42, none, .ia 4 (.t 40) (.t 41)⟩, ⟨some 43, none, .fa 3 (.t 42)⟩, ⟨some 44, none, .ld 1 false (.t 43)⟩, ⟨some 45, none, .mv (.t 8)⟩, ⟨some 46, none, .ia 4 (.t 44) (.t 45)⟩, ⟨some 47, none, .fa 3 (.t 46)⟩, ⟨some 48, none, .ld 1 false (.t 47)⟩, ⟨some 49, none, .buildS 1 1 [.int .i64 0] [(0, .t 48)] 2⟩, ⟨some 50, none, .app 102 2 1 8 [.int .i64 0] (.t 39) (.t 49)⟩, ⟨some 6, none, .mv (.t 50)⟩]) .skip))) (.rg [⟨some 23, none, .mv (.t 8)⟩, ⟨some 24, none, .bin .add .leaf (.t 23) (.k (.int .i64 1))⟩, ⟨some 8, none, .mv (.t 24)⟩]))))))) (.rg [⟨some 13, none, .mv (.t 7)⟩, ⟨some 14, none, .bin .add .leaf (.t 13) (.k (.int .i64 1))⟩, ⟨some 7, none, .mv (.t 14)⟩])))))) (.seq (.rg [⟨some 51, none, .mv (.t 6)⟩, ⟨some 52, none, .call 65 [.t 51]⟩, ⟨some 53, none, .ext 0 (.t 52)⟩, ⟨some 54, none, .ext 1 (.t 52)⟩, ⟨some 4, none, .mv (.t 53)⟩, ⟨some 5, none, .mv (.t 54)⟩]) .ret)))⟩ := by kernel_rfl

theorem is_p (s : Slot) (hs : SlR s) (e : Ent) (hd : 1 ≤ e.day ∧ e.day ≤ 3652059) (x : Ln) {b : Bool} (hb : isW s e.day x = b) : Pure 66 [sD s, e.d, x.d] (.bool b) := by
  intro S tk
  obtain ⟨a, k, i⟩ := s
  have hk := hs.k
  simp only at hk
  have ho := of2 e.day
  rw [if_pos hd] at ho
  have hwo : IntKind.wrap .u64 (ofI e.day) = ofI e.day := by have := of_bd e.day; rw [wu64]; omega
  unfold isW at hb
  by_cases ha : x.acc = a
  rotate_left
  · obtain rfl : b = false := by rw [← hb]; simp [ha]
    refine ACalls.fgo c66 rfl fun hS => ?_
    repeat' first | with_reducible refine fzD_ite (fun q => ?_) (fun q => ?_) | ((try conv => whnf); first | refine bs_f (decide_eq_false ha) ?_ | refine bs_d (fun q => ?_) (fun q => ?_) | refine bs_n ?_ | refine bs_i (fun q => ?_) (fun q => ?_) | refine eqk rfl ?_ | refine ffin _ rfl rfl hS (Sub.refl _) rfl ⟨?_, rfl, rfl⟩)
    all_goals rfl
  rcases hk with rfl | rfl | rfl | rfl
  · obtain rfl : b = true := by rw [← hb]; simp [ha]
    refine ACalls.fgo c66 rfl fun hS => ?_
    repeat' first | with_reducible refine fzD_ite (fun q => ?_) (fun q => ?_) | ((try conv => whnf); first | refine bs_t (decide_eq_true ha) ?_ | refine bs_d (fun q => ?_) (fun q => ?_) | refine bs_n ?_ | refine bs_i (fun q => ?_) (fun q => ?_) | refine eqk rfl ?_ | refine ffin _ rfl rfl hS (Sub.refl _) rfl ⟨?_, rfl, rfl⟩)
    all_goals rfl
  · have hb2 : decide (x.cus = i) = b := by rw [← hb]; simp [ha]
    subst hb2
    refine ACalls.fgo c66 rfl fun hS => ?_
    repeat' first | with_reducible refine fzD_ite (fun q => ?_) (fun q => ?_) | ((try conv => whnf); first | refine bs_t (decide_eq_true ha) ?_ | refine bs_d (fun q => ?_) (fun q => ?_) | refine bs_n ?_ | refine bs_i (fun q => ?_) (fun q => ?_) | refine eqk rfl ?_ | refine ffin _ rfl rfl hS (Sub.refl _) rfl ⟨?_, rfl, rfl⟩)
    all_goals first | rfl | (show D.bool _ = D.bool _; simp_all)
  · have hb2 : decide (x.con = i) = b := by rw [← hb]; simp [ha]
    subst hb2
    refine ACalls.fgo c66 rfl fun hS => ?_
    repeat' first | with_reducible refine fzD_ite (fun q => ?_) (fun q => ?_) | ((try conv => whnf); first | refine bs_t (decide_eq_true ha) ?_ | refine bs_d (fun q => ?_) (fun q => ?_) | refine bs_n ?_ | refine bs_i (fun q => ?_) (fun q => ?_) | refine eqk rfl ?_ | refine ffin _ rfl rfl hS (Sub.refl _) rfl ⟨?_, rfl, rfl⟩)
    all_goals first | rfl | (show D.bool _ = D.bool _; simp_all)
  · have hb2 : decide (ofI e.day = i) = b := by rw [← hb]; simp [ha]
    subst hb2
    refine ACalls.fgo c66 rfl fun hS => ?_
    repeat' first | with_reducible refine fzD_ite (fun q => ?_) (fun q => ?_) | ((try conv => whnf); first | refine bs_t (decide_eq_true ha) ?_ | refine bs_d (fun q => ?_) (fun q => ?_) | refine bs_n ?_ | refine bs_i (fun q => ?_) (fun q => ?_) | refine ckz (ho) ?_ | refine cq (ho) ?_ | refine eqk rfl ?_ | refine ffin _ rfl rfl hS (Sub.refl _) rfl ⟨?_, rfl, rfl⟩)
    all_goals first | rfl | (show D.bool _ = D.bool _; rw [hwo] at *; simp_all)
def sumP (s : Slot) (e : Ent) (k : Nat) : List Int := ((e.L.take k).filter (isW s e.day)).map Ln.amt
theorem sumP_snoc (s : Slot) (e : Ent) {k : Nat} (hk : k < e.L.length) : sumP s e (k + 1) = sumP s e k ++ if isW s e.day e.L[k]! = true then [(e.L[k]!).amt] else [] := by
  unfold sumP
  rw [take_snA hk, List.filter_append, List.map_append]
  generalize e.L[k]! = x
  congr 1
  by_cases h : isW s e.day x = true <;> simp [h]
theorem sumP_all (s : Slot) (e : Ent) : sumP s e e.L.length = sumE s e := by unfold sumP sumE; rw [List.take_length]
theorem sumP_len (s : Slot) (e : Ent) (k : Nat) : (sumP s e k).length ≤ e.L.length := by
  unfold sumP
  rw [List.length_map]
  have := List.length_filter_le (isW s e.day) (e.L.take k)
  rw [List.length_take] at this; omega
theorem entR_at {E : List Ent} {i : Nat} {e : Ent} {n : Int} (h : n = i) (he : E[i]? = some e) : iaD 4 (.sl (entR E)) (.int .i64 n) = some (.pe (entC e) 0) := by
  subst h
  exact iaD_map (f := entC) (by omega) (by rw [Int.toNat_natCast]; exact he) rfl
theorem sumL_at (s : Slot) {E : List Ent} {i : Nat} {e : Ent} (he : E[i]? = some e) : sumL (E.take (i + 1)) s = sumL (E.take i) s ++ sumE s e := by
  rw [List.take_add_one, he]; simp [sumL]
set_option maxHeartbeats 2000000 in
theorem Sum_p (E : List Ent) (hE : ∀ e ∈ E, e.R ∧ e.hd) (hl : E.length ≤ 1000) (s : Slot) (hs : SlR s) : Pure 45 [.sl (entR E), sD s] (sumS (sumL E s)) := by
  intro S tk
  have hlen : (entR E).length = E.length := by simp [entR]
  have hsl : ∀ i, (sumL (E.take i) s).length ≤ 64 * 1000 := fun i => by
    have := sumL_len (s := s) (E := E.take i) fun e he => (hE e (List.mem_of_mem_take he)).2
    rw [List.length_take] at this; omega
  have hsum := refSum (sumL E s) (by have := hsl E.length; rw [List.take_length] at this; omega) (sumL_I fun e he => (hE e he).1)
  refine ACalls.fgo c45 rfl fun hS => ?_
  repeat' first | with_reducible refine fzD_ite (fun q => ?_) (fun q => ?_) | ((try conv => whnf); first | refine bs_d (fun q => ?_) (fun q => ?_) | refine bs_n ?_ | refine bs_i (fun q => ?_) (fun q => ?_) | refine eqk rfl ?_ | refine ffin _ rfl rfl hS (Sub.refl _) rfl ⟨?_, rfl, rfl⟩)
  refine floop (α := Nat) rfl rfl hS (fun i => i ≤ E.length) (fun i => E.length - i) (fun i => [(7, .d (.int .i64 i)), (0, .d (.sl (entR E))), (3, .lp 0 0), (6, .d (.gsl (i64s (sumL (E.take i) s)) (tk.length + 0)))]) (fun _ => [.arr [.int .i64 s.1, .int .i64 s.2.1, .int .u64 s.2.2]]) (fun i => [((i64s (sumL (E.take i) s)).length, 2, 1)]) 0 (Nat.zero_le _) (fstep_tok 2 1 (t := 6) (.inl rfl) ⟨Sub.refl _, Sub.refl _, Sub.refl _, Sub.refl _, trivial⟩) ?_
  intro i hi
  by_cases hlt : i < E.length
  · have hat := List.getElem?_eq_getElem hlt
    have hix := entR_at (n := (i : Int)) rfl hat
    have hsn := sumL_at s hat
    obtain ⟨hR, hh⟩ := hE _ (List.getElem_mem hlt)
    generalize E[i] = e at hix hsn hR hh
    have hll := lns_len e.L
    unfold Ent.hd at hh
    repeat' first | with_reducible refine fzD_ite (fun q => ?_) (fun q => ?_) | ((try conv => whnf); first | refine bs_t (decide_eq_true (show (i : Int) < (entR E).length by omega)) ?_ | refine bs_d (fun q => ?_) (fun q => ?_) | refine bs_n ?_ | refine bs_i (fun q => ?_) (fun q => ?_) | refine eqk rfl ?_ | refine ffin _ rfl rfl hS (Sub.refl _) rfl ⟨?_, rfl, rfl⟩)
    conv => whnf
    refine floop (α := Nat) rfl rfl hS (fun k => k ≤ e.L.length) (fun k => e.L.length - k) (fun k => [(8, .d (.int .i64 k)), (7, .d (.int .i64 i)), (0, .d (.sl (entR E))), (3, .lp 0 0), (6, .d (.gsl (i64s (sumL (E.take i) s ++ sumP s e k)) (tk.length + 0)))]) (fun _ => [.arr [.int .i64 s.1, .int .i64 s.2.1, .int .u64 s.2.2]]) (fun k => [((i64s (sumL (E.take i) s ++ sumP s e k)).length, 2, 1)]) 0 (Nat.zero_le _) (fstep_K (by simp [sumP]) ⟨Sub.refl _, Sub.refl _, Sub.refl _, Sub.refl _, Sub.of (by simp [sumP]; rfl), trivial⟩) ?_
    intro k hk
    by_cases hkl : k < e.L.length
    · have hiy := iaD_ln (l := e.L) (i := k) (n := (k : Int)) rfl hkl
      have hst := sumP_snoc s e hkl
      have hpl := sumP_len s e k
      have hs1 := hsl i
      have hxR := hR.L _ (mem_at hkl)
      generalize e.L[k]! = x at hiy hst hxR
      cases hb : isW s e.day x with
      | true =>
        have his := is_p s hs e ⟨hh.1, hh.2.1⟩ x hb
        rw [hb, if_pos rfl] at hst
        have hgl : i64s (sumL (E.take i) s ++ sumP s e k) ++ [[.int .i64 x.amt]] = i64s (sumL (E.take i) s ++ sumP s e (k + 1)) := by rw [hst]; simp [i64s]
        repeat' first | with_reducible refine fzD_ite (fun q => ?_) (fun q => ?_) | ((try conv => whnf); first | refine bs_t (decide_eq_true (show (k : Int) < (lns e.L).length by omega)) ?_ | refine bs_d (fun q => ?_) (fun q => ?_) | refine bs_n ?_ | refine bs_i (fun q => ?_) (fun q => ?_) | refine pK_i hix ?_ | refine pK_i hiy ?_ | refine ckz (his) ?_ | refine cq (his) ?_ | (refine gk_app (t := 0) (src := [[.int .i64 x.amt]]) rfl rfl (by rfl) (by rfl) (by rfl) (by simp) (by rw [i64s_len, List.length_append]; simp [maxLen]; omega) ?_; rw [hgl]) | refine eqk rfl ?_ | refine ffin _ rfl rfl hS (Sub.refl _) rfl ⟨?_, rfl, rfl⟩)
        conv => whnf
        exact fnext (α := Nat) (k + 1) (by omega) (by omega) (fstep_sub ⟨Sub.int (by first | rfl | omega | (refine Int.sub_eq_zero.mp ?_; simp (disch := ((try unfold I64); omega)) only [wi64_id, td]; omega)), Sub.refl _, Sub.refl _, Sub.refl _, Sub.refl _, trivial⟩)
      | false =>
        have his := is_p s hs e ⟨hh.1, hh.2.1⟩ x hb
        rw [hb, if_neg (by simp), List.append_nil] at hst
        repeat' first | with_reducible refine fzD_ite (fun q => ?_) (fun q => ?_) | ((try conv => whnf); first | refine bs_t (decide_eq_true (show (k : Int) < (lns e.L).length by omega)) ?_ | refine bs_d (fun q => ?_) (fun q => ?_) | refine bs_n ?_ | refine bs_i (fun q => ?_) (fun q => ?_) | refine pK_i hix ?_ | refine pK_i hiy ?_ | refine ckz (his) ?_ | refine cq (his) ?_ | refine eqk rfl ?_ | refine ffin _ rfl rfl hS (Sub.refl _) rfl ⟨?_, rfl, rfl⟩)
        conv => whnf
        rw [← hst]
        exact fnext (α := Nat) (k + 1) (by omega) (by omega) (fstep_sub ⟨Sub.int (by first | rfl | omega | (refine Int.sub_eq_zero.mp ?_; simp (disch := ((try unfold I64); omega)) only [wi64_id, td]; omega)), Sub.refl _, Sub.refl _, Sub.refl _, Sub.refl _, trivial⟩)
    · obtain rfl : k = e.L.length := by omega
      rw [sumP_all, ← hsn]
      repeat' first | with_reducible refine fzD_ite (fun q => ?_) (fun q => ?_) | ((try conv => whnf); first | refine bs_f (decide_eq_false (show ¬ (e.L.length : Int) < (lns e.L).length by omega)) ?_ | refine bs_d (fun q => ?_) (fun q => ?_) | refine bs_n ?_ | refine bs_i (fun q => ?_) (fun q => ?_) | refine pK_i hix ?_ | refine eqk rfl ?_ | refine ffin _ rfl rfl hS (Sub.refl _) rfl ⟨?_, rfl, rfl⟩)
      conv => whnf
      exact fnext (α := Nat) (i + 1) (by omega) (by omega) (fstep_sub ⟨Sub.int (by first | rfl | omega | (refine Int.sub_eq_zero.mp ?_; simp (disch := ((try unfold I64); omega)) only [wi64_id, td]; omega)), Sub.refl _, Sub.refl _, Sub.refl _, trivial⟩)
  · obtain rfl : i = E.length := by omega
    rw [List.take_length]
    by_cases hf : -9223372036854775808 ≤ (sumL E s).sum ∧ (sumL E s).sum < 9223372036854775808
    · rw [sumS, if_pos hf] at hsum ⊢
      repeat' first | with_reducible refine fzD_ite (fun q => ?_) (fun q => ?_) | ((try conv => whnf); first | refine bs_f (decide_eq_false (show ¬ (E.length : Int) < (entR E).length by omega)) ?_ | refine bs_d (fun q => ?_) (fun q => ?_) | refine bs_n ?_ | refine bs_i (fun q => ?_) (fun q => ?_) | refine ckS (by first | rfl | simp) rfl hsum (.cons (Sub.rd rfl) .nil) ?_ | refine eqk rfl ?_ | refine ffin _ rfl rfl hS (Sub.refl _) rfl ⟨?_, rfl, rfl⟩)
      all_goals rfl
    · rw [sumS, if_neg hf] at hsum ⊢
      repeat' first | with_reducible refine fzD_ite (fun q => ?_) (fun q => ?_) | ((try conv => whnf); first | refine bs_f (decide_eq_false (show ¬ (E.length : Int) < (entR E).length by omega)) ?_ | refine bs_d (fun q => ?_) (fun q => ?_) | refine bs_n ?_ | refine bs_i (fun q => ?_) (fun q => ?_) | refine ckS (by first | rfl | simp) rfl hsum (.cons (Sub.rd rfl) .nil) ?_ | refine eqk rfl ?_ | refine ffin _ rfl rfl hS (Sub.refl _) rfl ⟨?_, rfl, rfl⟩)
      all_goals rfl
theorem c30 : cFun E0.P 30 = some ⟨59, [(4, none)], .seq (.rg [⟨some 3, none, .box (.t 1) 35⟩, ⟨some 4, none, .mv (.k (.bool false))⟩]) (.seq (.rg [⟨some 13, none, .fa 0 (.t 3)⟩, ⟨some 14, none, .ld 1 false (.t 13)⟩, ⟨some 15, none, .call 29 [.t 14]⟩, ⟨some 12, none, .mv (.t 15)⟩, ⟨some 16, none, .ext 0 (.t 12)⟩, ⟨some 17, none, .ext 1 (.t 12)⟩, ⟨some 5, none, .mv (.t 16)⟩, ⟨some 6, none, .mv (.t 17)⟩]) (.seq (.seq (.rg [⟨some 7, none, .mv (.k (.int .i64 0))⟩]) (.block 0 (.loop (.seq (.seq (.rg [⟨some 18, none, .mv (.t 7)⟩, ⟨some 19, none, .fa 3 (.t 3)⟩, ⟨some 20, none, .ld 1 false (.t 19)⟩, ⟨some 21, none, .len 1 (.t 20)⟩, ⟨some 22, none, .bin .lss .leaf (.t 18) (.t 21)⟩]) (.cond (.t 22) .skip (.exit 0))) (.seq (.block 1 (.seq (.rg [⟨some 25, none, .fa 3 (.t 3)⟩, ⟨some 26, none, .ld 1 false (.t 25)⟩, ⟨some 27, none, .mv (.t 7)⟩, ⟨some 28, none, .ia 4 (.t 26) (.t 27)⟩, ⟨some 29, none, .ld 4 true (.t 28)⟩, ⟨some 8, none, .alloc [.int .i64 0, .int .u64 0, .int .u64 0, .int .i64 0] 85⟩, ⟨none, none, .st 4 (.t 8) (.t 29)⟩]) (.seq (.rg [⟨some 9, none, .mv (.k (.int .i64 0))⟩]) (.block 2 (.loop (.seq (.seq (.rg [⟨some 30, none, .mv (.t 9)⟩, ⟨some 31, none, .bin .lss .leaf (.t 30) (.k (.int .i64 4))⟩]) (.cond (.t 31) .skip (.exit 2))) (.seq (.block 3 (.seq (.rd [(⟨some 35, none, .mv (.t 0)⟩, none), (⟨some 36, none, .fa 0 (.t 8)⟩, none), (⟨some 37, none, .ld 1 false (.t 36)⟩, none), (⟨some 38, none, .mv (.t 9)⟩, none), (⟨some 39, none, .fa 1 (.t 8)⟩, none), (⟨some 40, none, .ld 1 false (.t 39)⟩, none), (⟨some 41, none, .fa 2 (.t 8)⟩, none), (⟨some 42, none, .ld 1 false (.t 41)⟩, none), (⟨some 43, none, .mv (.t 5)⟩, none), (⟨some 44, none, .conv .u64 (.t 43)⟩, none), (⟨some 45, none, .buildS 4 1 [.int .u64 0] [(0, .k (.int .u64 0)), (1, .t 40), (2, .t 42), (3, .t 44)] 32⟩, none), (⟨some 46, none, .mv (.t 9)⟩, none), (⟨some 47, none, .ia 1 (.t 45) (.t 46)⟩, none), (⟨some 48, none, .ld 1 false (.t 47)⟩, none), (⟨some 49, none, .build [.int .i64 0, .int .i64 0, .int .u64 0] [(0, 1, .t 37), (1, 1, .t 38), (2, 1, .t 48)]⟩, none), (⟨some 50, none, .call 45 [.t 35, .t 49]⟩, some []), (⟨some 34, none, .mv (.t 50)⟩, none), (⟨some 51, none, .ext 0 (.t 34)⟩, none), (⟨some 52, none, .ext 1 (.t 34)⟩, none), (⟨some 10, none, .mv (.t 51)⟩, none), (⟨some 11, none, .mv (.t 52)⟩, none)]) (.seq (.rg [⟨some 53, none, .mv (.t 11)⟩, ⟨some 54, none, .un .not (.t 53)⟩, ⟨some 55, none, .mv (.t 54)⟩, ⟨some 56, some (55, false), .mv (.t 10)⟩, ⟨some 57, some (55, false), .bin .eql .leaf (.t 56) (.k (.int .i64 (-9223372036854775808)))⟩, ⟨some 58, none, .pick (.t 55) (.k (.bool true)) (.t 57)⟩]) (.cond (.t 58) (.seq (.rg [⟨some 4, none, .mv (.k (.bool false))⟩]) .ret) .skip)))) (.rg [⟨some 32, none, .mv (.t 9)⟩, ⟨some 33, none, .bin .add .leaf (.t 32) (.k (.int .i64 1))⟩, ⟨some 9, none, .mv (.t 33)⟩])))))))) (.rg [⟨some 23, none, .mv (.t 7)⟩, ⟨some 24, none, .bin .add .leaf (.t 23) (.k (.int .i64 1))⟩, ⟨some 7, none, .mv (.t 24)⟩])))))) (.seq (.rg [⟨some 4, none, .mv (.k (.bool true))⟩]) .ret)))⟩ := by kernel_rfl
theorem c8 : cFun E0.P 8 = some ⟨46, [(6, some (2, true)), (7, none)], .seq (.rg [⟨some 4, none, .box (.t 1) 31⟩, ⟨some 5, none, .box (.t 2) 35⟩, ⟨some 6, none, .alloc [.nilsl, .int .i64 0] 31⟩, ⟨some 7, none, .mv (.k (.int .i64 0))⟩]) (.seq (.rg [⟨some 12, none, .mv (.t 0)⟩, ⟨some 13, none, .ld 4 true (.t 5)⟩, ⟨some 14, none, .call 28 [.t 12, .t 13]⟩, ⟨some 8, none, .mv (.t 14)⟩]) (.seq (.seq (.rg [⟨some 15, none, .mv (.t 8)⟩, ⟨some 16, none, .bin .neq .leaf (.t 15) (.k (.int .i64 0))⟩]) (.cond (.t 16) (.seq (.rg [⟨some 17, none, .ld 2 true (.t 4)⟩, ⟨some 18, none, .mv (.t 8)⟩, ⟨none, none, .st 2 (.t 6) (.t 17)⟩, ⟨some 7, none, .mv (.t 18)⟩]) .ret) .skip)) (.seq (.rg [⟨some 20, none, .fa 0 (.t 5)⟩, ⟨some 21, none, .ld 1 false (.t 20)⟩, ⟨some 22, none, .call 29 [.t 21]⟩, ⟨some 19, none, .mv (.t 22)⟩, ⟨some 23, none, .ext 0 (.t 19)⟩, ⟨some 24, none, .ext 1 (.t 19)⟩, ⟨some 9, none, .mv (.t 23)⟩, ⟨some 10, none, .mv (.t 24)⟩]) (.seq (.seq (.rg [⟨some 25, none, .mv (.t 9)⟩, ⟨some 26, none, .fa 1 (.t 4)⟩, ⟨some 27, none, .ld 1 false (.t 26)⟩, ⟨some 28, none, .bin .leq .leaf (.t 25) (.t 27)⟩]) (.cond (.t 28) (.seq (.rg [⟨some 29, none, .ld 2 true (.t 4)⟩, ⟨none, none, .st 2 (.t 6) (.t 29)⟩, ⟨some 7, none, .mv (.k (.int .i64 210))⟩]) .ret) .skip)) (.seq (.rd [(⟨some 30, none, .buildS 0 4 [.int .i64 0, .int .u8 0, .int .u64 0, .nilsl] [] 35⟩, none), (⟨some 31, none, .fa 0 (.t 4)⟩, none), (⟨some 32, none, .ld 1 false (.t 31)⟩, none), (⟨some 34, none, .ld 4 true (.t 5)⟩, none), (⟨some 35, none, .buildS 1 4 [.int .i64 0, .int .u8 0, .int .u64 0, .nilsl] [(0, .t 34)] 35⟩, none), (⟨some 33, none, .app 29 35 4 48 [.int .i64 0, .int .u8 0, .int .u64 0, .nilsl] (.t 30) (.t 32)⟩, some [⟨some 34, none, .ld 4 true (.t 5)⟩]), (⟨some 36, none, .app 29 35 4 48 [.int .i64 0, .int .u8 0, .int .u64 0, .nilsl] (.t 33) (.t 35)⟩, some []), (⟨some 11, none, .mv (.t 36)⟩, none)]) (.seq (.seq (.rg [⟨some 37, none, .mv (.t 11)⟩, ⟨some 38, none, .ld 4 true (.t 5)⟩, ⟨some 39, none, .call 30 [.t 37, .t 38]⟩, ⟨some 40, none, .un .not (.t 39)⟩]) (.cond (.t 40) (.seq (.rg [⟨some 41, none, .ld 2 true (.t 4)⟩, ⟨none, none, .st 2 (.t 6) (.t 41)⟩, ⟨some 7, none, .mv (.k (.int .i64 211))⟩]) .ret) .skip)) (.seq (.rg [⟨some 42, none, .mv (.t 11)⟩, ⟨some 43, none, .fa 1 (.t 4)⟩, ⟨some 44, none, .ld 1 false (.t 43)⟩, ⟨some 45, none, .build [.nilsl, .int .i64 0] [(0, 1, .t 42), (1, 1, .t 44)]⟩, ⟨none, none, .st 2 (.t 6) (.t 45)⟩, ⟨some 7, none, .mv (.k (.int .i64 0))⟩]) .ret)))))))⟩ := by kernel_rfl
theorem c11 : cFun E0.P 11 = some ⟨22, [(4, some (2, true)), (5, none)], .seq (.rg [⟨some 2, none, .box (.t 0) 31⟩, ⟨some 4, none, .alloc [.nilsl, .int .i64 0] 31⟩, ⟨some 5, none, .mv (.k (.int .i64 0))⟩]) (.seq (.seq (.rg [⟨some 6, none, .mv (.t 1)⟩, ⟨some 7, none, .bin .lss .leaf (.t 6) (.k (.int .i64 1))⟩, ⟨some 8, none, .mv (.t 7)⟩, ⟨some 9, some (8, false), .mv (.t 1)⟩, ⟨some 10, some (8, false), .bin .gtr .leaf (.t 9) (.k (.int .i64 119988))⟩, ⟨some 11, none, .pick (.t 8) (.k (.bool true)) (.t 10)⟩]) (.cond (.t 11) (.seq (.rg [⟨some 12, none, .ld 2 true (.t 2)⟩, ⟨none, none, .st 2 (.t 4) (.t 12)⟩, ⟨some 5, none, .mv (.k (.int .i64 2))⟩]) .ret) .skip)) (.seq (.seq (.rg [⟨some 13, none, .mv (.t 1)⟩, ⟨some 14, none, .fa 1 (.t 2)⟩, ⟨some 15, none, .ld 1 false (.t 14)⟩, ⟨some 16, none, .bin .leq .leaf (.t 13) (.t 15)⟩]) (.cond (.t 16) (.seq (.rg [⟨some 17, none, .ld 2 true (.t 2)⟩, ⟨none, none, .st 2 (.t 4) (.t 17)⟩, ⟨some 5, none, .mv (.k (.int .i64 9))⟩]) .ret) .skip)) (.seq (.rg [⟨some 18, none, .fa 0 (.t 2)⟩, ⟨some 19, none, .ld 1 false (.t 18)⟩, ⟨some 20, none, .mv (.t 1)⟩, ⟨some 21, none, .build [.nilsl, .int .i64 0] [(0, 1, .t 19), (1, 1, .t 20)]⟩, ⟨none, none, .st 2 (.t 4) (.t 21)⟩, ⟨some 5, none, .mv (.k (.int .i64 0))⟩]) .ret)))⟩ := by kernel_rfl

theorem fst_tup {a b : D} : True := trivial
theorem slotK_k {day : Int} {x : Ln} {k : Nat} (hk : k < 4) : (slotK day x k).2.1 = (k : Int) := by
  have : k = 0 ∨ k = 1 ∨ k = 2 ∨ k = 3 := by omega
  rcases this with rfl | rfl | rfl | rfl <;> rfl
theorem slotK_a (day : Int) (x : Ln) (k : Nat) : (slotK day x k).1 = x.acc := by
  match k with
  | 0 => rfl
  | 1 => rfl
  | 2 => rfl
  | k + 3 => rfl
structure MaS where
  k : Nat
set_option maxHeartbeats 4000000 in
theorem may_p {f : Slot → Option Int} {E : List Ent} (hT : TotI f E) (hE : ∀ e ∈ E, e.R ∧ e.hd) (hl : E.length ≤ 900) (e : Ent) (hR : e.R) (hh : e.hd) {b : Bool} (hb : b = true ↔ ∀ s ∈ tts (adL e), okS (adL e) f noneF s) :
    Pure 30 [.sl (entR (E ++ [e])), e.d] (.bool b) := by
  intro S tk
  have hll := lns_len e.L
  have hE2 : ∀ x ∈ E ++ [e], x.R ∧ x.hd := fun x hx => by
    rcases List.mem_append.1 hx with hx | hx
    · exact hE x hx
    · rw [List.mem_singleton.1 hx]; exact ⟨hR, hh⟩
  have hsm := fun (s : Slot) (hs : SlR s) => Sum_p (E ++ [e]) hE2 (by simp; omega) s hs
  have ho := of2 e.day
  unfold Ent.hd at hh
  rw [if_pos ⟨hh.1, hh.2.1⟩] at ho
  have hwo : IntKind.wrap .u64 (ofI e.day) = ofI e.day := by have := of_bd e.day; rw [wu64]; omega
  refine ACalls.fgo c30 rfl fun hS => ?_
  repeat' first | with_reducible refine fzD_ite (fun q => ?_) (fun q => ?_) | ((try conv => whnf); first | refine bs_d (fun q => ?_) (fun q => ?_) | refine bs_n ?_ | refine bs_i (fun q => ?_) (fun q => ?_) | refine ckz (ho) ?_ | refine cq (ho) ?_ | refine eqk rfl ?_ | refine ffin _ rfl rfl hS (Sub.refl _) rfl ⟨?_, rfl, rfl⟩)
  conv => whnf
  refine floop (α := Nat) rfl rfl hS (fun i => i ≤ e.L.length ∧ ∀ x ∈ e.L.take i, ∀ k, k < 4 → okS (adL e) f noneF (slotK e.day x k)) (fun i => e.L.length - i) (fun i => [(7, .d (.int .i64 i)), (3, .lp 0 0), (5, .d (.int .i64 (ofI e.day))), (0, .d (.sl (entR (E ++ [e]))))]) (fun _ => [.arr (entC e)]) (fun _ => []) 0 ⟨Nat.zero_le _, by simp⟩ (fstep_sub ⟨Sub.refl _, Sub.refl _, Sub.refl _, Sub.refl _, trivial⟩) ?_
  rintro i ⟨hi, hok⟩
  by_cases hlt : i < e.L.length
  rotate_left
  · have hbt : b = true := hb.2 fun s hs => by
      obtain ⟨x, hx, k, hk, rfl⟩ := mem_ad.1 hs
      exact hok x (by rw [List.take_of_length_le (by omega)]; exact hx) k hk
    subst hbt
    repeat' first | with_reducible refine fzD_ite (fun q => ?_) (fun q => ?_) | ((try conv => whnf); first | refine bs_f (decide_eq_false (show ¬ (i : Int) < (lns e.L).length by omega)) ?_ | refine bs_d (fun q => ?_) (fun q => ?_) | refine bs_n ?_ | refine bs_i (fun q => ?_) (fun q => ?_) | refine eqk rfl ?_ | refine ffin _ rfl rfl hS (Sub.refl _) rfl ⟨?_, rfl, rfl⟩)
    all_goals rfl
  have hiy := iaD_ln (l := e.L) (i := i) (n := (i : Int)) rfl hlt
  have hxm := mem_at hlt
  have htk := take_snA hlt
  generalize e.L[i]! = x at hiy hxm htk
  repeat' first | with_reducible refine fzD_ite (fun q => ?_) (fun q => ?_) | ((try conv => whnf); first | refine bs_t (decide_eq_true (show (i : Int) < (lns e.L).length by omega)) ?_ | refine bs_d (fun q => ?_) (fun q => ?_) | refine bs_n ?_ | refine bs_i (fun q => ?_) (fun q => ?_) | refine pK_i hiy ?_ | refine eqk rfl ?_ | refine ffin _ rfl rfl hS (Sub.refl _) rfl ⟨?_, rfl, rfl⟩)
  conv => whnf
  refine floop (α := MaS) rfl rfl hS (fun s => s.k ≤ 4 ∧ ∀ j, j < s.k → okS (adL e) f noneF (slotK e.day x j)) (fun s => 4 - s.k) (fun s => [(9, .d (.int .i64 s.k)), (7, .d (.int .i64 i)), (3, .lp 0 0), (8, .lp 1 0), (5, .d (.int .i64 (ofI e.day))), (0, .d (.sl (entR (E ++ [e]))))]) (fun _ => [.arr (entC e), .arr x.cs]) (fun _ => []) ⟨0⟩ ⟨Nat.zero_le _, by simp⟩ (fstep_sub ⟨Sub.refl _, Sub.refl _, Sub.refl _, Sub.refl _, Sub.refl _, Sub.refl _, trivial⟩) ?_
  rintro ⟨k⟩ ⟨hk, hj⟩
  simp only at hk hj ⊢
  by_cases hk4 : k = 4
  · subst hk4
    repeat' first | with_reducible refine fzD_ite (fun q => ?_) (fun q => ?_) | ((try conv => whnf); first | refine bs_d (fun q => ?_) (fun q => ?_) | refine bs_n ?_ | refine bs_i (fun q => ?_) (fun q => ?_) | refine eqk rfl ?_ | refine ffin _ rfl rfl hS (Sub.refl _) rfl ⟨?_, rfl, rfl⟩)
    conv => whnf
    refine fnext (α := Nat) (i + 1) ⟨by omega, fun y hy j hj4 => ?_⟩ (by omega) (fstep_drop (J' := [.arr (entC e)]) (Jx := [_]) (TK' := []) (TKx := []) rfl rfl ⟨Sub.int (by first | rfl | omega | (refine Int.sub_eq_zero.mp ?_; simp (disch := ((try unfold I64); omega)) only [wi64_id, td]; omega)), Sub.refl _, Sub.refl _, Sub.refl _, trivial⟩ (by simp [frD, FD.to, frSc, D.sc]; exact scLL_entR _ _ _) (by simp [oScL, oSc, entC, scL, D.sc, scLL_lns]))
    rw [htk] at hy
    rcases List.mem_append.1 hy with hy | hy
    · exact hok y hy j hj4
    · rw [List.mem_singleton.1 hy]; exact hj j hj4
  have hk3 : k < 4 := by omega
  have hsl := slotK_R e.day x k hk3
  have hsk := hsm _ hsl
  have hnv := newV_tot hT hsl e
  obtain ⟨v, hv⟩ : ∃ v, v = (sumL (E ++ [e]) (slotK e.day x k)).sum := ⟨_, rfl⟩
  rw [← hv] at hnv
  by_cases hokk : okS (adL e) f noneF (slotK e.day x k)
  · have h1 := hokk
    unfold okS at h1
    rw [hnv] at h1
    rw [sumS, ← hv, if_pos (by omega)] at hsk
    have hv2 : ¬ v = -9223372036854775808 := by omega
    have hnx : ∀ j, j < k + 1 → okS (adL e) f noneF (slotK e.day x j) := fun j hj1 => by
      by_cases e1 : j = k
      · rw [e1]; exact hokk
      · exact hj j (by omega)
    have : k = 0 ∨ k = 1 ∨ k = 2 ∨ k = 3 := by omega
    rcases this with rfl | rfl | rfl | rfl
    all_goals
      (try rw [show sD (slotK e.day x 3) = .agg [.int .i64 x.acc, .int .i64 3, .int .u64 (IntKind.wrap .u64 (ofI e.day))] by rw [hwo]; rfl] at hsk)
      repeat' first | with_reducible refine fzD_ite (fun q => ?_) (fun q => ?_) | ((try conv => whnf); first | refine bs_f (decide_eq_false hv2) ?_ | refine bs_d (fun q => ?_) (fun q => ?_) | refine bs_n ?_ | refine bs_i (fun q => ?_) (fun q => ?_) | refine ckz (hsk) ?_ | refine cq (hsk) ?_ | refine eqk rfl ?_ | refine ffin _ rfl rfl hS (Sub.refl _) rfl ⟨?_, rfl, rfl⟩)
      conv => whnf
      exact fnext (α := MaS) ⟨_⟩ ⟨by simp only; omega, hnx⟩ (by simp only; omega) (fstep_sub ⟨Sub.int (by first | rfl | omega | (refine Int.sub_eq_zero.mp ?_; simp (disch := ((try unfold I64); omega)) only [wi64_id, td]; omega)), Sub.refl _, Sub.refl _, Sub.refl _, Sub.refl _, Sub.refl _, trivial⟩)
  · have hbf : b = false := by
      cases hbb : b with
      | false => rfl
      | true => exact absurd (hb.1 hbb _ (mem_ad.2 ⟨x, hxm, k, hk3, rfl⟩)) hokk
    subst hbf
    have h1 := hokk
    unfold okS at h1
    rw [hnv] at h1
    by_cases hf : -9223372036854775808 ≤ v ∧ v < 9223372036854775808
    · rw [sumS, ← hv, if_pos hf] at hsk
      have hv2 : v = -9223372036854775808 := by omega
      have : k = 0 ∨ k = 1 ∨ k = 2 ∨ k = 3 := by omega
      rcases this with rfl | rfl | rfl | rfl
      all_goals
        (try rw [show sD (slotK e.day x 3) = .agg [.int .i64 x.acc, .int .i64 3, .int .u64 (IntKind.wrap .u64 (ofI e.day))] by rw [hwo]; rfl] at hsk)
        repeat' first | with_reducible refine fzD_ite (fun q => ?_) (fun q => ?_) | ((try conv => whnf); first | refine bs_t (decide_eq_true hv2) ?_ | refine bs_d (fun q => ?_) (fun q => ?_) | refine bs_n ?_ | refine bs_i (fun q => ?_) (fun q => ?_) | refine ckz (hsk) ?_ | refine cq (hsk) ?_ | refine eqk rfl ?_ | refine ffin _ rfl rfl hS (Sub.refl _) rfl ⟨?_, rfl, rfl⟩)
        all_goals rfl
    · rw [sumS, ← hv, if_neg hf] at hsk
      have : k = 0 ∨ k = 1 ∨ k = 2 ∨ k = 3 := by omega
      rcases this with rfl | rfl | rfl | rfl
      all_goals
        (try rw [show sD (slotK e.day x 3) = .agg [.int .i64 x.acc, .int .i64 3, .int .u64 (IntKind.wrap .u64 (ofI e.day))] by rw [hwo]; rfl] at hsk)
        repeat' first | with_reducible refine fzD_ite (fun q => ?_) (fun q => ?_) | ((try conv => whnf); first | refine bs_d (fun q => ?_) (fun q => ?_) | refine bs_n ?_ | refine bs_i (fun q => ?_) (fun q => ?_) | refine ckz (hsk) ?_ | refine cq (hsk) ?_ | refine eqk rfl ?_ | refine ffin _ rfl rfl hS (Sub.refl _) rfl ⟨?_, rfl, rfl⟩)
        all_goals rfl
def qD (E : List Ent) (cl : Int) : D := .agg [.sl (entR E), .int .i64 cl]
theorem qD_sub {es : List (List D)} {t : Nat} {c y : D} : Sub (.tup [.agg [.gsl es t, c], y]) (.tup [.agg [.sl es, c], y]) :=
  Sub.tup (.cons (Sub.agg (.cons (Sub.rd rfl) (.cons (Sub.refl _) .nil))) (.cons (Sub.refl _) .nil))
set_option maxHeartbeats 4000000 in
theorem Post_p {ql : AcL} (hok : OkQ ql) (hq : ql.length < 1000000) {f : Slot → Option Int} {E : List Ent} (hT : TotI f E) (hE : ∀ e ∈ E, e.R ∧ e.hd) (hl : E.length ≤ 900) (cl : Int) (e : Ent) (hR : e.R) :
    Pure 8 [.sl (acsL ql), qD E cl, e.d] (.tup [qD (nextE ql f cl E e) cl, .int .i64 (postN ql f cl e)]) := by
  intro S tk
  have hon := rOn ql hok hq e hR
  have ho := of2 e.day
  have hel : (entR E).length = E.length := by simp [entR]
  have h4 : ∀ s ∈ entR E, s.length = 4 := fun s hs => by obtain ⟨x, _, rfl⟩ := List.mem_map.1 hs; rfl
  by_cases h0 : onN ql e = 0
  rotate_left
  · have hp : postN ql f cl e = onN ql e := by unfold postN; rw [if_pos (.inl h0), if_pos h0]
    rw [nextE, hp, if_neg h0]
    obtain ⟨n, hn⟩ : ∃ n, n = onN ql e := ⟨_, rfl⟩
    rw [← hn] at hon h0 ⊢
    refine ACalls.fgo c8 rfl fun hS => ?_
    repeat' first | with_reducible refine fzD_ite (fun q => ?_) (fun q => ?_) | ((try conv => whnf); first | refine bs_f (decide_eq_false h0) ?_ | refine bs_d (fun q => ?_) (fun q => ?_) | refine bs_n ?_ | refine bs_i (fun q => ?_) (fun q => ?_) | refine ckz (hon) ?_ | refine cq (hon) ?_ | refine ffin _ rfl rfl hS (Sub.refl _) (by simp [tupD, qD, D.sc, scL, scLL_entR]) ⟨?_, rfl, rfl⟩ | refine eqk rfl ?_ | refine ffin _ rfl rfl hS (Sub.refl _) rfl ⟨?_, rfl, rfl⟩)
    all_goals rfl
  have hc : e.chk = 0 := Classical.byContradiction fun h => by rw [onN, if_neg h] at h0; exact h h0
  have hh := (Ent.chk_0 hc).1
  have hh' := hh
  unfold Ent.hd at hh'
  rw [if_pos ⟨hh'.1, hh'.2.1⟩] at ho
  rw [h0] at hon
  by_cases hcl : ofI e.day ≤ cl
  · have hp : postN ql f cl e = 210 := by unfold postN; rw [if_pos (.inr hcl), if_neg (by rw [h0]; simp)]
    rw [nextE, hp, if_neg (by decide)]
    refine ACalls.fgo c8 rfl fun hS => ?_
    repeat' first | with_reducible refine fzD_ite (fun q => ?_) (fun q => ?_) | ((try conv => whnf); first | refine bs_t (decide_eq_true rfl) ?_ | refine bs_t (decide_eq_true hcl) ?_ | refine bs_d (fun q => ?_) (fun q => ?_) | refine bs_n ?_ | refine bs_i (fun q => ?_) (fun q => ?_) | refine ckz (hon) ?_ | refine cq (hon) ?_ | refine ckz (ho) ?_ | refine cq (ho) ?_ | refine ffin _ rfl rfl hS (Sub.refl _) (by simp [tupD, qD, D.sc, scL, scLL_entR]) ⟨?_, rfl, rfl⟩ | refine eqk rfl ?_ | refine ffin _ rfl rfl hS (Sub.refl _) rfl ⟨?_, rfl, rfl⟩)
    all_goals rfl
  have hb : ¬ (onN ql e ≠ 0 ∨ ofI e.day ≤ cl) := fun h => h.elim (fun h => h h0) hcl
  have happ : entR E ++ [entC e] = entR (E ++ [e]) := by simp [entR]
  by_cases hoks : ∀ s ∈ tts (adL e), okS (adL e) f noneF s
  · have hp : postN ql f cl e = 0 := by unfold postN; rw [if_neg hb, if_pos hoks]
    have hmay := may_p hT hE hl e hR hh (b := true) ⟨fun _ => hoks, fun _ => rfl⟩
    rw [nextE, hp, if_pos rfl]
    refine ACalls.fgo c8 rfl fun hS => ?_
    repeat' first | with_reducible refine fzD_ite (fun q => ?_) (fun q => ?_) | ((try conv => whnf); first | refine bs_t (decide_eq_true rfl) ?_ | refine bs_f (decide_eq_false hcl) ?_ | refine bs_d (fun q => ?_) (fun q => ?_) | refine bs_n ?_ | refine bs_i (fun q => ?_) (fun q => ?_) | refine ckz (hon) ?_ | refine cq (hon) ?_ | refine ckz (ho) ?_ | refine cq (ho) ?_ | refine gk_app0 (src := entR E) rfl rfl (.inr rfl) rfl h4 (by rw [hel]; simp [maxLen]; omega) ?_ | (refine gk_app (t := 0) (src := [entC e]) rfl rfl (by rfl) (by rfl) (by rfl) (by simp [entC]) (by rw [hel]; simp [maxLen]; omega) ?_; rw [happ]) | refine ckS (by first | rfl | simp) rfl hmay (.cons (Sub.rd rfl) (.cons (Sub.refl _) .nil)) ?_ | refine ffin (.tup [qD (E ++ [e]) cl, .int .i64 0]) rfl rfl hS qD_sub (by simp [qD, D.sc, scL]; exact scLL_entR _ _ _) ⟨?_, rfl, rfl⟩ | refine eqk rfl ?_ | refine ffin _ rfl rfl hS (Sub.refl _) rfl ⟨?_, rfl, rfl⟩)
    all_goals rfl
  · have hp : postN ql f cl e = 211 := by unfold postN; rw [if_neg hb, if_neg hoks]
    have hmay := may_p hT hE hl e hR hh (b := false) ⟨fun h => (by cases h), fun h => absurd h hoks⟩
    rw [nextE, hp, if_neg (by decide)]
    refine ACalls.fgo c8 rfl fun hS => ?_
    repeat' first | with_reducible refine fzD_ite (fun q => ?_) (fun q => ?_) | ((try conv => whnf); first | refine bs_t (decide_eq_true rfl) ?_ | refine bs_f (decide_eq_false hcl) ?_ | refine bs_d (fun q => ?_) (fun q => ?_) | refine bs_n ?_ | refine bs_i (fun q => ?_) (fun q => ?_) | refine ckz (hon) ?_ | refine cq (hon) ?_ | refine ckz (ho) ?_ | refine cq (ho) ?_ | refine gk_app0 (src := entR E) rfl rfl (.inr rfl) rfl h4 (by rw [hel]; simp [maxLen]; omega) ?_ | (refine gk_app (t := 0) (src := [entC e]) rfl rfl (by rfl) (by rfl) (by rfl) (by simp [entC]) (by rw [hel]; simp [maxLen]; omega) ?_; rw [happ]) | refine ckS (by first | rfl | simp) rfl hmay (.cons (Sub.rd rfl) (.cons (Sub.refl _) .nil)) ?_ | refine ffin _ rfl rfl hS (Sub.refl _) (by simp [tupD, qD, D.sc, scL, scLL_entR]) ⟨?_, rfl, rfl⟩ | refine eqk rfl ?_ | refine ffin _ rfl rfl hS (Sub.refl _) rfl ⟨?_, rfl, rfl⟩)
    all_goals rfl
theorem Close_p (E : List Ent) (cl month : Int) : Pure 11 [qD E cl, .int .i64 month] (.tup [qD E (clN cl month), .int .i64 (closeN cl month)]) := by
  intro S tk
  unfold clN closeN
  by_cases h1 : month < 1 ∨ 119988 < month
  · rw [if_pos h1, if_neg (by decide)]
    refine ACalls.fgo c11 rfl fun hS => ?_
    repeat' first | with_reducible refine fzD_ite (fun q => ?_) (fun q => ?_) | ((try conv => whnf); first | refine bs_d (fun q => ?_) (fun q => ?_) | refine bs_n ?_ | refine bs_i (fun q => ?_) (fun q => ?_) | refine ffin _ rfl rfl hS (Sub.refl _) (by simp [tupD, qD, D.sc, scL, scLL_entR]) ⟨?_, rfl, rfl⟩ | refine eqk rfl ?_ | refine ffin _ rfl rfl hS (Sub.refl _) rfl ⟨?_, rfl, rfl⟩)
    all_goals first | rfl | (exfalso; omega)
  rw [if_neg h1]
  by_cases h2 : month ≤ cl
  · rw [if_pos h2, if_neg (by decide)]
    refine ACalls.fgo c11 rfl fun hS => ?_
    repeat' first | with_reducible refine fzD_ite (fun q => ?_) (fun q => ?_) | ((try conv => whnf); first | refine bs_t (decide_eq_true h2) ?_ | refine bs_d (fun q => ?_) (fun q => ?_) | refine bs_n ?_ | refine bs_i (fun q => ?_) (fun q => ?_) | refine ffin _ rfl rfl hS (Sub.refl _) (by simp [tupD, qD, D.sc, scL, scLL_entR]) ⟨?_, rfl, rfl⟩ | refine eqk rfl ?_ | refine ffin _ rfl rfl hS (Sub.refl _) rfl ⟨?_, rfl, rfl⟩)
    all_goals first | rfl | (exfalso; omega)
  · rw [if_neg h2, if_pos rfl]
    refine ACalls.fgo c11 rfl fun hS => ?_
    repeat' first | with_reducible refine fzD_ite (fun q => ?_) (fun q => ?_) | ((try conv => whnf); first | refine bs_f (decide_eq_false h2) ?_ | refine bs_d (fun q => ?_) (fun q => ?_) | refine bs_n ?_ | refine bs_i (fun q => ?_) (fun q => ?_) | refine ffin _ rfl rfl hS (Sub.refl _) (by simp [tupD, qD, D.sc, scL, scLL_entR]) ⟨?_, rfl, rfl⟩ | refine eqk rfl ?_ | refine ffin _ rfl rfl hS (Sub.refl _) rfl ⟨?_, rfl, rfl⟩)
    all_goals first | rfl | (exfalso; omega)
theorem c41 : cFun E0.P 41 = some ⟨51, [(6, none), (7, none)], .seq (.rg [⟨some 4, none, .box (.t 1) 31⟩, ⟨some 6, none, .mv (.k (.int .i64 0))⟩, ⟨some 7, none, .mv (.k (.int .i64 0))⟩]) (.seq (.seq (.rg [⟨some 15, none, .mv (.t 0)⟩, ⟨some 16, none, .mv (.t 2)⟩, ⟨some 17, none, .call 52 [.t 15, .t 16]⟩, ⟨some 18, none, .bin .lss .leaf (.t 17) (.k (.int .i64 0))⟩]) (.cond (.t 18) (.seq (.rg [⟨some 6, none, .mv (.k (.int .i64 0))⟩, ⟨some 7, none, .mv (.k (.int .i64 7))⟩]) .ret) .skip)) (.seq (.rg [⟨some 19, none, .mv (.t 0)⟩, ⟨some 20, none, .mv (.t 2)⟩, ⟨some 21, none, .call 64 [.t 19, .t 20]⟩, ⟨some 8, none, .mv (.t 21)⟩]) (.seq (.rg [⟨some 9, none, .mv (.k .nilsl)⟩]) (.seq (.seq (.rg [⟨some 10, none, .mv (.k (.int .i64 0))⟩]) (.block 0 (.loop (.seq (.seq (.rg [⟨some 22, none, .mv (.t 10)⟩, ⟨some 23, none, .mv (.t 8)⟩, ⟨some 24, none, .len 1 (.t 23)⟩, ⟨some 25, none, .bin .lss .leaf (.t 22) (.t 24)⟩]) (.cond (.t 25) .skip (.exit 0))) (.seq (.block 1 (.seq (.rd [(⟨some 29, none, .fa 0 (.t 4)⟩, none), (⟨some 30, none, .ld 1 false (.t 29)⟩, none), (⟨some 31, none, .mv (.t 8)⟩, none), (⟨some 32, none, .mv (.t 10)⟩, none), (⟨some 33, none, .ia 1 (.t 31) (.t 32)⟩, none), (⟨some 34, none, .ld 1 false (.t 33)⟩, none), (⟨some 35, none, .build [.int .i64 0, .int .i64 0, .int .u64 0] [(0, 1, .t 34)]⟩, none), (⟨some 36, none, .call 45 [.t 30, .t 35]⟩, some []), (⟨some 28, none, .mv (.t 36)⟩, none), (⟨some 37, none, .ext 0 (.t 28)⟩, none), (⟨some 38, none, .ext 1 (.t 28)⟩, none), (⟨some 11, none, .mv (.t 37)⟩, none), (⟨some 12, none, .mv (.t 38)⟩, none)]) (.rg [⟨some 39, none, .mv (.t 9)⟩, ⟨some 40, none, .mv (.t 11)⟩, ⟨some 41, none, .buildS 1 1 [.int .i64 0] [(0, .t 40)] 2⟩, ⟨some 42, none, .app 102 2 1 8 [.int .i64 0] (.t 39) (.t 41)⟩, ⟨some 9, none, .mv (.t 42)⟩]))) (.rg [⟨some 26, none, .mv (.t 10)⟩, ⟨some 27, none, .bin .add .leaf (.t 26) (.k (.int .i64 1))⟩, ⟨some 10, none, .mv (.t 27)⟩])))))) (.seq (.rg [⟨some 44, none, .mv (.t 9)⟩, ⟨some 45, none, .call 65 [.t 44]⟩, ⟨some 43, none, .mv (.t 45)⟩, ⟨some 46, none, .ext 0 (.t 43)⟩, ⟨some 47, none, .ext 1 (.t 43)⟩, ⟨some 13, none, .mv (.t 46)⟩, ⟨some 14, none, .mv (.t 47)⟩]) (.seq (.seq (.rg [⟨some 48, none, .mv (.t 14)⟩, ⟨some 49, none, .un .not (.t 48)⟩]) (.cond (.t 49) (.seq (.rg [⟨some 6, none, .mv (.k (.int .i64 0))⟩, ⟨some 7, none, .mv (.k (.int .i64 211))⟩]) .ret) .skip)) (.seq (.rg [⟨some 50, none, .mv (.t 13)⟩, ⟨some 6, none, .mv (.t 50)⟩, ⟨some 7, none, .mv (.k (.int .i64 0))⟩]) .ret)))))))⟩ := by kernel_rfl
theorem c44 : cFun E0.P 44 = some ⟨53, [(4, none)], .seq (.rg [⟨some 3, none, .box (.t 1) 31⟩, ⟨some 4, none, .mv (.k .nilsl)⟩]) (.seq (.rg [⟨some 5, none, .mv (.k .nilsl)⟩]) (.seq (.seq (.rg [⟨some 6, none, .mv (.k (.int .i64 0))⟩]) (.block 0 (.loop (.seq (.seq (.rg [⟨some 9, none, .mv (.t 6)⟩, ⟨some 10, none, .mv (.t 0)⟩, ⟨some 11, none, .len 1 (.t 10)⟩, ⟨some 12, none, .bin .lss .leaf (.t 9) (.t 11)⟩]) (.cond (.t 12) .skip (.exit 0))) (.seq (.block 1 (.seq (.rd [(⟨some 16, none, .fa 0 (.t 3)⟩, none), (⟨some 17, none, .ld 1 false (.t 16)⟩, none), (⟨some 18, none, .mv (.t 0)⟩, none), (⟨some 19, none, .mv (.t 6)⟩, none), (⟨some 20, none, .ia 5 (.t 18) (.t 19)⟩, none), (⟨some 21, none, .fa 0 (.t 20)⟩, none), (⟨some 22, none, .ld 1 false (.t 21)⟩, none), (⟨some 23, none, .build [.int .i64 0, .int .i64 0, .int .u64 0] [(0, 1, .t 22)]⟩, none), (⟨some 24, none, .call 45 [.t 17, .t 23]⟩, some []), (⟨some 15, none, .mv (.t 24)⟩, none), (⟨some 25, none, .ext 0 (.t 15)⟩, none), (⟨some 26, none, .ext 1 (.t 15)⟩, none), (⟨some 7, none, .mv (.t 25)⟩, none), (⟨some 8, none, .mv (.t 26)⟩, none)]) (.seq (.seq (.rg [⟨some 27, none, .mv (.t 7)⟩, ⟨some 28, none, .bin .gtr .leaf (.t 27) (.k (.int .i64 0))⟩]) (.cond (.t 28) (.rg [⟨some 29, none, .mv (.t 5)⟩, ⟨some 30, none, .mv (.t 0)⟩, ⟨some 31, none, .mv (.t 6)⟩, ⟨some 32, none, .ia 5 (.t 30) (.t 31)⟩, ⟨some 33, none, .fa 0 (.t 32)⟩, ⟨some 34, none, .ld 1 false (.t 33)⟩, ⟨some 35, none, .mv (.t 7)⟩, ⟨some 36, none, .build [.int .i64 0, .int .i64 0, .int .i64 0] [(0, 1, .t 34), (1, 1, .t 35)]⟩, ⟨some 37, none, .buildS 1 3 [.int .i64 0, .int .i64 0, .int .i64 0] [(0, .t 36)] 66⟩, ⟨some 38, none, .app 62 66 3 24 [.int .i64 0, .int .i64 0, .int .i64 0] (.t 29) (.t 37)⟩, ⟨some 5, none, .mv (.t 38)⟩]) .skip)) (.seq (.rg [⟨some 39, none, .mv (.t 7)⟩, ⟨some 40, none, .bin .lss .leaf (.t 39) (.k (.int .i64 0))⟩]) (.cond (.t 40) (.rg [⟨some 41, none, .mv (.t 5)⟩, ⟨some 42, none, .mv (.t 0)⟩, ⟨some 43, none, .mv (.t 6)⟩, ⟨some 44, none, .ia 5 (.t 42) (.t 43)⟩, ⟨some 45, none, .fa 0 (.t 44)⟩, ⟨some 46, none, .ld 1 false (.t 45)⟩, ⟨some 47, none, .mv (.t 7)⟩, ⟨some 48, none, .un .neg (.t 47)⟩, ⟨some 49, none, .build [.int .i64 0, .int .i64 0, .int .i64 0] [(0, 1, .t 46), (2, 1, .t 48)]⟩, ⟨some 50, none, .buildS 1 3 [.int .i64 0, .int .i64 0, .int .i64 0] [(0, .t 49)] 66⟩, ⟨some 51, none, .app 62 66 3 24 [.int .i64 0, .int .i64 0, .int .i64 0] (.t 41) (.t 50)⟩, ⟨some 5, none, .mv (.t 51)⟩]) .skip))))) (.rg [⟨some 13, none, .mv (.t 6)⟩, ⟨some 14, none, .bin .add .leaf (.t 13) (.k (.int .i64 1))⟩, ⟨some 6, none, .mv (.t 14)⟩])))))) (.seq (.rg [⟨some 52, none, .mv (.t 5)⟩, ⟨some 4, none, .mv (.t 52)⟩]) .ret)))⟩ := by kernel_rfl

theorem own_p {f : Slot → Option Int} {E : List Ent} (hT : TotI f E) (hI : ∀ s, I64 ((f s).getD 0)) (hE : ∀ e ∈ E, e.R ∧ e.hd) (hl : E.length ≤ 900) (s : Slot) (hs : SlR s) {v : Int} (hv : (f s).getD 0 = v) :
    Pure 45 [.sl (entR E), sD s] (.tup [.int .i64 v, .bool true]) := by
  have h := Sum_p E hE (by omega) s hs
  have h2 := hI s
  rw [sumS, ← hT s hs, hv, if_pos (by rw [hv] at h2; exact h2)] at h
  exact h
theorem iaD_i {l : List Int} {i : Nat} {n : Int} (h : n = i) (hi : i < l.length) : iaD 1 (.sl (i64s l)) (.int .i64 n) = some (.pe [.int .i64 l[i]!] 0) := by
  subst h
  exact iaD_map (f := fun n => [D.int .i64 n]) (by omega) (by rw [Int.toNat_natCast, List.getElem?_eq_getElem hi, getElem!_pos l i hi]) rfl
set_option maxHeartbeats 2000000 in
theorem Balance_p {ql : AcL} (hok : OkQ ql) (hq : ql.length < 1000000) {f : Slot → Option Int} {E : List Ent} (hT : TotI f E) (hI : ∀ s, I64 ((f s).getD 0)) (hE : ∀ e ∈ E, e.R ∧ e.hd) (hl : E.length ≤ 900) (cl a : Int) :
    Pure 41 [.sl (acsL ql), qD E cl, .int .i64 a] (balS ql f a) := by
  intro S tk
  have ap := at_p ql a hq
  have up := under_p ql hq hok.low a
  unfold balS
  rcases atI_cases ql a with ⟨h3, h4⟩ | ⟨k, x, h3, h4, h5, h6, h7⟩
  · rw [h4] at ap
    rw [if_neg (by rw [h3]; simp)]
    refine ACalls.fgo c41 rfl fun hS => ?_
    repeat' first | with_reducible refine fzD_ite (fun q => ?_) (fun q => ?_) | ((try conv => whnf); first | refine bs_d (fun q => ?_) (fun q => ?_) | refine bs_n ?_ | refine bs_i (fun q => ?_) (fun q => ?_) | refine ckz (ap) ?_ | refine cq (ap) ?_ | refine eqk rfl ?_ | refine ffin _ rfl rfl hS (Sub.refl _) rfl ⟨?_, rfl, rfl⟩)
    all_goals rfl
  rw [h4] at ap
  rw [if_pos (by rw [h6]; rfl)]
  have hul : (undL ql a ql).length ≤ ql.length := by unfold undL; rw [List.length_map]; exact List.length_filter_le ..
  unfold undV
  generalize undL ql a ql = U at up hul
  have hUl := i64s_len U
  have hsum := refSum (U.map (ownV f)) (by rw [List.length_map]; omega) (fun n hn => by obtain ⟨c, _, rfl⟩ := List.mem_map.1 hn; exact hI (c, 0, 0))
  refine ACalls.fgo c41 rfl fun hS => ?_
  repeat' first | with_reducible refine fzD_ite (fun q => ?_) (fun q => ?_) | ((try conv => whnf); first | refine bs_f (decide_eq_false (show ¬ ((k : Nat) : Int) < 0 by omega)) ?_ | refine bs_d (fun q => ?_) (fun q => ?_) | refine bs_n ?_ | refine bs_i (fun q => ?_) (fun q => ?_) | refine ckz (ap) ?_ | refine cq (ap) ?_ | refine ckz (up) ?_ | refine cq (up) ?_ | refine eqk rfl ?_ | refine ffin _ rfl rfl hS (Sub.refl _) rfl ⟨?_, rfl, rfl⟩)
  conv => whnf
  refine floop (α := Nat) rfl rfl hS (fun j => j ≤ U.length) (fun j => U.length - j) (fun j => [(10, .d (.int .i64 j)), (8, .d (.sl (i64s U))), (4, .lp 0 0), (9, .d (.gsl (i64s ((U.take j).map (ownV f))) (tk.length + 0)))]) (fun _ => [.arr [.sl (entR E), .int .i64 cl]]) (fun j => [((i64s ((U.take j).map (ownV f))).length, 2, 1)]) 0 (Nat.zero_le _) (fstep_tok 2 1 (t := 9) (.inl rfl) ⟨Sub.refl _, Sub.refl _, Sub.refl _, Sub.refl _, trivial⟩) ?_
  intro j hj
  by_cases hjl : j < U.length
  · have hix := iaD_i (l := U) (i := j) (n := (j : Int)) rfl hjl
    have hsn := take_snA hjl
    generalize U[j]! = c at hix hsn
    obtain ⟨v, hv⟩ : ∃ v, v = ownV f c := ⟨_, rfl⟩
    have hsm := own_p hT hI hE hl (c, 0, 0) ⟨.inl rfl, fun _ => rfl⟩ (v := v) hv.symm
    have hgl : i64s ((U.take j).map (ownV f)) ++ [[.int .i64 v]] = i64s ((U.take (j + 1)).map (ownV f)) := by rw [hsn, hv]; simp [i64s]
    repeat' first | with_reducible refine fzD_ite (fun q => ?_) (fun q => ?_) | ((try conv => whnf); first | refine bs_t (decide_eq_true (show (j : Int) < (i64s U).length by omega)) ?_ | refine bs_d (fun q => ?_) (fun q => ?_) | refine bs_n ?_ | refine bs_i (fun q => ?_) (fun q => ?_) | refine pK_i hix ?_ | refine ckz (hsm) ?_ | refine cq (hsm) ?_ | (refine gk_app (t := 0) (src := [[.int .i64 v]]) rfl rfl (by rfl) (by rfl) (by rfl) (by simp) (by rw [i64s_len, List.length_map, List.length_take]; simp [maxLen]; omega) ?_; rw [hgl]) | refine eqk rfl ?_ | refine ffin _ rfl rfl hS (Sub.refl _) rfl ⟨?_, rfl, rfl⟩)
    conv => whnf
    exact fnext (α := Nat) (j + 1) (by omega) (by omega) (fstep_sub ⟨Sub.int (by first | rfl | omega | (refine Int.sub_eq_zero.mp ?_; simp (disch := ((try unfold I64); omega)) only [wi64_id, td]; omega)), Sub.refl _, Sub.refl _, Sub.refl _, trivial⟩)
  · obtain rfl : j = U.length := by omega
    rw [List.take_length]
    by_cases hf : -9223372036854775808 ≤ (U.map (ownV f)).sum ∧ (U.map (ownV f)).sum < 9223372036854775808
    · rw [if_pos hf]
      rw [sumS, if_pos hf] at hsum
      repeat' first | with_reducible refine fzD_ite (fun q => ?_) (fun q => ?_) | ((try conv => whnf); first | refine bs_f (decide_eq_false (show ¬ (U.length : Int) < (i64s U).length by omega)) ?_ | refine bs_d (fun q => ?_) (fun q => ?_) | refine bs_n ?_ | refine bs_i (fun q => ?_) (fun q => ?_) | refine ckS (by first | rfl | simp) rfl hsum (.cons (Sub.rd rfl) .nil) ?_ | refine eqk rfl ?_ | refine ffin _ rfl rfl hS (Sub.refl _) rfl ⟨?_, rfl, rfl⟩)
      all_goals rfl
    · rw [if_neg hf]
      rw [sumS, if_neg hf] at hsum
      repeat' first | with_reducible refine fzD_ite (fun q => ?_) (fun q => ?_) | ((try conv => whnf); first | refine bs_f (decide_eq_false (show ¬ (U.length : Int) < (i64s U).length by omega)) ?_ | refine bs_d (fun q => ?_) (fun q => ?_) | refine bs_n ?_ | refine bs_i (fun q => ?_) (fun q => ?_) | refine ckS (by first | rfl | simp) rfl hsum (.cons (Sub.rd rfl) .nil) ?_ | refine eqk rfl ?_ | refine ffin _ rfl rfl hS (Sub.refl _) rfl ⟨?_, rfl, rfl⟩)
      all_goals rfl
set_option maxHeartbeats 2000000 in
theorem Trial_p {ql : AcL} (hq : ql.length < 1000000) {f : Slot → Option Int} {E : List Ent} (hT : TotI f E) (hI : ∀ s, I64 ((f s).getD 0)) (hnz : ∀ s, -9223372036854775808 < (f s).getD 0) (hE : ∀ e ∈ E, e.R ∧ e.hd) (hl : E.length ≤ 900) (cl : Int) :
    Pure 44 [.sl (acsL ql), qD E cl] (.sl (bas (triL ql f))) := by
  intro S tk
  have hal := acsL_len ql
  refine ACalls.fgo c44 rfl fun hS => ?_
  repeat' first | with_reducible refine fzD_ite (fun q => ?_) (fun q => ?_) | ((try conv => whnf); first | refine bs_d (fun q => ?_) (fun q => ?_) | refine bs_n ?_ | refine bs_i (fun q => ?_) (fun q => ?_) | refine eqk rfl ?_ | refine ffin _ rfl rfl hS (Sub.refl _) rfl ⟨?_, rfl, rfl⟩)
  refine floop (α := Nat) rfl rfl hS (fun j => j ≤ ql.length) (fun j => ql.length - j) (fun j => [(6, .d (.int .i64 j)), (0, .d (.sl (acsL ql))), (3, .lp 0 0), (5, .d (.gsl (bas (triL (ql.take j) f)) (tk.length + 0)))]) (fun _ => [.arr [.sl (entR E), .int .i64 cl]]) (fun j => [((bas (triL (ql.take j) f)).length, 66, 3)]) 0 (Nat.zero_le _) (fstep_tok 66 3 (t := 5) (.inl rfl) ⟨Sub.refl _, Sub.refl _, Sub.refl _, Sub.refl _, trivial⟩) ?_
  intro j hj
  by_cases hjl : j < ql.length
  · have hia := iaD_ac (l := ql) (i := j) (n := (j : Int)) rfl hjl
    have hst := triL_snoc ql f hjl
    have hll := triL_len (ql.take j) f
    rw [List.length_take] at hll
    generalize ql[j]! = a at hia hst
    obtain ⟨v, hv⟩ : ∃ v, v = ownV f a.code := ⟨_, rfl⟩
    have hsm := own_p hT hI hE hl (a.code, 0, 0) ⟨.inl rfl, fun _ => rfl⟩ (v := v) hv.symm
    have h1 := hI (a.code, 0, 0)
    have h2 := hnz (a.code, 0, 0)
    change I64 (ownV f a.code) at h1
    change -9223372036854775808 < ownV f a.code at h2
    rw [← hv] at h1 h2 hst
    unfold I64 at h1
    have hw : IntKind.wrap .i64 (0 - v) = -v := by rw [wi64_id (by unfold I64; omega)]; omega
    by_cases h0 : v = 0
    · rw [if_neg (by simp [h0]), List.append_nil] at hst
      repeat' first | with_reducible refine fzD_ite (fun q => ?_) (fun q => ?_) | ((try conv => whnf); first | refine bs_t (decide_eq_true (show (j : Int) < (acsL ql).length by omega)) ?_ | refine bs_f (decide_eq_false (show ¬ v > 0 by omega)) ?_ | refine bs_f (decide_eq_false (show ¬ v < 0 by omega)) ?_ | refine bs_d (fun q => ?_) (fun q => ?_) | refine bs_n ?_ | refine bs_i (fun q => ?_) (fun q => ?_) | refine pK_i hia ?_ | refine ckz (hsm) ?_ | refine cq (hsm) ?_ | refine eqk rfl ?_ | refine ffin _ rfl rfl hS (Sub.refl _) rfl ⟨?_, rfl, rfl⟩)
      conv => whnf
      rw [← hst]
      exact fnext (α := Nat) (j + 1) (by omega) (by omega) (fstep_sub ⟨Sub.int (by first | rfl | omega | (refine Int.sub_eq_zero.mp ?_; simp (disch := ((try unfold I64); omega)) only [wi64_id, td]; omega)), Sub.refl _, Sub.refl _, Sub.refl _, trivial⟩)
    rw [if_pos (by simpa using h0)] at hst
    by_cases hp : v > 0
    · have hgl : bas (triL (ql.take j) f) ++ [[.int .i64 a.code, .int .i64 v, .int .i64 0]] = bas (triL (ql.take (j + 1)) f) := by
        rw [hst, bas, bas, List.map_append]
        have e : baV f a = ⟨a.code, v, 0⟩ := by
          unfold baV
          rw [← hv, hw, show max v 0 = v by omega, show max (-v) 0 = 0 by omega]
        simp [e, Ba.cs]
      repeat' first | with_reducible refine fzD_ite (fun q => ?_) (fun q => ?_) | ((try conv => whnf); first | refine bs_t (decide_eq_true (show (j : Int) < (acsL ql).length by omega)) ?_ | refine bs_t (decide_eq_true hp) ?_ | refine bs_f (decide_eq_false (show ¬ v < 0 by omega)) ?_ | refine bs_d (fun q => ?_) (fun q => ?_) | refine bs_n ?_ | refine bs_i (fun q => ?_) (fun q => ?_) | refine pK_i hia ?_ | refine ckz (hsm) ?_ | refine cq (hsm) ?_ | (refine gk_app (t := 0) (src := [[.int .i64 a.code, .int .i64 v, .int .i64 0]]) rfl rfl (by rfl) (by rfl) (by rfl) (by simp) (by rw [bas_len]; simp [maxLen]; omega) ?_; rw [hgl]) | refine eqk rfl ?_ | refine ffin _ rfl rfl hS (Sub.refl _) rfl ⟨?_, rfl, rfl⟩)
      conv => whnf
      exact fnext (α := Nat) (j + 1) (by omega) (by omega) (fstep_sub ⟨Sub.int (by first | rfl | omega | (refine Int.sub_eq_zero.mp ?_; simp (disch := ((try unfold I64); omega)) only [wi64_id, td]; omega)), Sub.refl _, Sub.refl _, Sub.refl _, trivial⟩)
    · have hgl : bas (triL (ql.take j) f) ++ [[.int .i64 a.code, .int .i64 0, .int .i64 (IntKind.wrap .i64 (0 - v))]] = bas (triL (ql.take (j + 1)) f) := by
        rw [hst, bas, bas, List.map_append]
        have e : baV f a = ⟨a.code, 0, IntKind.wrap .i64 (0 - v)⟩ := by
          unfold baV
          rw [← hv, hw, show max v 0 = 0 by omega, show max (-v) 0 = -v by omega]
        simp [e, Ba.cs]
      repeat' first | with_reducible refine fzD_ite (fun q => ?_) (fun q => ?_) | ((try conv => whnf); first | refine bs_t (decide_eq_true (show (j : Int) < (acsL ql).length by omega)) ?_ | refine bs_f (decide_eq_false hp) ?_ | refine bs_t (decide_eq_true (show v < 0 by omega)) ?_ | refine bs_d (fun q => ?_) (fun q => ?_) | refine bs_n ?_ | refine bs_i (fun q => ?_) (fun q => ?_) | refine pK_i hia ?_ | refine ckz (hsm) ?_ | refine cq (hsm) ?_ | (refine gk_app (t := 0) (src := [[.int .i64 a.code, .int .i64 0, .int .i64 (IntKind.wrap .i64 (0 - v))]]) rfl rfl (by rfl) (by rfl) (by rfl) (by simp) (by rw [bas_len]; simp [maxLen]; omega) ?_; rw [hgl]) | refine eqk rfl ?_ | refine ffin _ rfl rfl hS (Sub.refl _) rfl ⟨?_, rfl, rfl⟩)
      conv => whnf
      exact fnext (α := Nat) (j + 1) (by omega) (by omega) (fstep_sub ⟨Sub.int (by first | rfl | omega | (refine Int.sub_eq_zero.mp ?_; simp (disch := ((try unfold I64); omega)) only [wi64_id, td]; omega)), Sub.refl _, Sub.refl _, Sub.refl _, trivial⟩)
  · obtain rfl : j = ql.length := by omega
    rw [List.take_length]
    repeat' first | with_reducible refine fzD_ite (fun q => ?_) (fun q => ?_) | ((try conv => whnf); first | refine bs_f (decide_eq_false (show ¬ (ql.length : Int) < (acsL ql).length by omega)) ?_ | refine bs_d (fun q => ?_) (fun q => ?_) | refine bs_n ?_ | refine bs_i (fun q => ?_) (fun q => ?_) | refine ffin (.sl (bas (triL ql f))) rfl rfl hS (Sub.rd rfl) (scLL_bas _ _ _) ⟨?_, rfl, rfl⟩ | refine eqk rfl ?_ | refine ffin _ rfl rfl hS (Sub.refl _) rfl ⟨?_, rfl, rfl⟩)
    all_goals rfl
theorem c15 : cFun E0.P 15 = some ⟨151, [(8, none)], .seq (.rg [⟨some 6, none, .box (.t 2) 31⟩, ⟨some 7, none, .box (.t 3) 39⟩, ⟨some 8, none, .mv (.k (.bool false))⟩]) (.seq (.rg [⟨some 21, none, .mv (.t 1)⟩, ⟨some 22, none, .call 9 [.t 21]⟩, ⟨some 9, none, .mv (.t 22)⟩]) (.seq (.rg [⟨some 24, none, .mv (.t 0)⟩, ⟨some 25, none, .fa 6 (.t 7)⟩, ⟨some 26, none, .fa 0 (.t 25)⟩, ⟨some 27, none, .ld 1 false (.t 26)⟩, ⟨some 28, none, .call 20 [.t 24, .t 27]⟩, ⟨some 23, none, .mv (.t 28)⟩, ⟨some 29, none, .ext 0 (.t 23)⟩, ⟨some 30, none, .ext 1 (.t 23)⟩, ⟨some 10, none, .mv (.t 29)⟩, ⟨some 11, none, .mv (.t 30)⟩]) (.seq (.rg [⟨some 32, none, .mv (.t 9)⟩, ⟨some 33, none, .ld 2 true (.t 6)⟩, ⟨some 34, none, .fa 6 (.t 7)⟩, ⟨some 35, none, .fa 0 (.t 34)⟩, ⟨some 36, none, .ld 1 false (.t 35)⟩, ⟨some 37, none, .call 41 [.t 32, .t 33, .t 36]⟩, ⟨some 31, none, .mv (.t 37)⟩, ⟨some 38, none, .ext 0 (.t 31)⟩, ⟨some 39, none, .ext 1 (.t 31)⟩, ⟨some 12, none, .mv (.t 38)⟩, ⟨some 13, none, .mv (.t 39)⟩]) (.seq (.seq (.rd [(⟨some 40, none, .mv (.t 10)⟩, none), (⟨some 41, none, .mv (.t 12)⟩, none), (⟨some 42, none, .bin .neq .leaf (.t 40) (.t 41)⟩, none), (⟨some 43, none, .mv (.t 42)⟩, none), (⟨some 44, some (43, false), .mv (.t 11)⟩, none), (⟨some 45, some (43, false), .mv (.t 13)⟩, none), (⟨some 46, some (43, false), .bin .neq .leaf (.t 44) (.t 45)⟩, none), (⟨some 47, none, .pick (.t 43) (.k (.bool true)) (.t 46)⟩, none), (⟨some 48, none, .mv (.t 47)⟩, none), (⟨some 49, some (48, false), .mv (.t 0)⟩, none), (⟨some 50, some (48, false), .call 42 [.t 49]⟩, none), (⟨some 51, some (48, false), .fa 1 (.t 6)⟩, none), (⟨some 52, some (48, false), .ld 1 false (.t 51)⟩, none), (⟨some 53, some (48, false), .bin .neq .leaf (.t 50) (.t 52)⟩, none), (⟨some 54, none, .pick (.t 48) (.k (.bool true)) (.t 53)⟩, none), (⟨some 55, none, .mv (.t 54)⟩, none), (⟨some 56, some (55, false), .mv (.t 0)⟩, none), (⟨some 57, some (55, false), .call 43 [.t 56]⟩, none), (⟨some 58, some (55, false), .fa 0 (.t 6)⟩, none), (⟨some 59, some (55, false), .ld 1 false (.t 58)⟩, none), (⟨some 60, some (55, false), .len 1 (.t 59)⟩, none), (⟨some 61, some (55, false), .bin .neq .leaf (.t 57) (.t 60)⟩, none), (⟨some 62, none, .pick (.t 55) (.k (.bool true)) (.t 61)⟩, none), (⟨some 63, none, .mv (.t 62)⟩, none), (⟨some 64, some (63, false), .mv (.t 0)⟩, none), (⟨some 65, some (63, false), .call 24 [.t 64]⟩, none), (⟨some 66, some (63, false), .mv (.t 9)⟩, none), (⟨some 67, some (63, false), .ld 2 true (.t 6)⟩, none), (⟨some 68, some (63, false), .call 44 [.t 66, .t 67]⟩, some []), (⟨some 69, some (63, false), .call 25 [.t 65, .t 68]⟩, some []), (⟨some 70, some (63, false), .un .not (.t 69)⟩, none), (⟨some 71, none, .pick (.t 63) (.k (.bool true)) (.t 70)⟩, none)]) (.cond (.t 71) (.seq (.rg [⟨some 8, none, .mv (.k (.bool false))⟩]) .ret) .skip)) (.seq (.seq (.rg [⟨some 14, none, .mv (.k (.int .i64 0))⟩]) (.block 0 (.loop (.seq (.seq (.rg [⟨some 72, none, .mv (.t 14)⟩, ⟨some 73, none, .fa 1 (.t 7)⟩, ⟨some 74, none, .fa 3 (.t 73)⟩, ⟨some 75, none, .ld 1 false (.t 74)⟩, ⟨some 76, none, .len 1 (.t 75)⟩, ⟨some 77, none, .bin .lss .leaf (.t 72) (.t 76)⟩]) (.cond (.t 77) .skip (.exit 0))) (.seq (.block 1 (.seq (.rg [⟨some 80, none, .fa 1 (.t 7)⟩, ⟨some 81, none, .fa 3 (.t 80)⟩, ⟨some 82, none, .ld 1 false (.t 81)⟩, ⟨some 83, none, .mv (.t 14)⟩, ⟨some 84, none, .ia 4 (.t 82) (.t 83)⟩, ⟨some 85, none, .ld 4 true (.t 84)⟩, ⟨some 15, none, .alloc [.int .i64 0, .int .u64 0, .int .u64 0, .int .i64 0] 85⟩, ⟨none, none, .st 4 (.t 15) (.t 85)⟩]) (.seq (.rg [⟨some 87, none, .fa 0 (.t 6)⟩, ⟨some 88, none, .ld 1 false (.t 87)⟩, ⟨some 89, none, .fa 0 (.t 15)⟩, ⟨some 90, none, .ld 1 false (.t 89)⟩, ⟨some 91, none, .fa 1 (.t 15)⟩, ⟨some 92, none, .ld 1 false (.t 91)⟩, ⟨some 93, none, .build [.int .i64 0, .int .i64 0, .int .u64 0] [(0, 1, .t 90), (1, 1, .k (.int .i64 1)), (2, 1, .t 92)]⟩, ⟨some 94, none, .call 45 [.t 88, .t 93]⟩, ⟨some 86, none, .mv (.t 94)⟩, ⟨some 95, none, .ext 0 (.t 86)⟩, ⟨some 96, none, .ext 1 (.t 86)⟩, ⟨some 16, none, .mv (.t 95)⟩, ⟨some 17, none, .mv (.t 96)⟩]) (.seq (.rg [⟨some 98, none, .fa 0 (.t 6)⟩, ⟨some 99, none, .ld 1 false (.t 98)⟩, ⟨some 100, none, .fa 0 (.t 15)⟩, ⟨some 101, none, .ld 1 false (.t 100)⟩, ⟨some 102, none, .fa 2 (.t 15)⟩, ⟨some 103, none, .ld 1 false (.t 102)⟩, ⟨some 104, none, .build [.int .i64 0, .int .i64 0, .int .u64 0] [(0, 1, .t 101), (1, 1, .k (.int .i64 2)), (2, 1, .t 103)]⟩, ⟨some 105, none, .call 45 [.t 99, .t 104]⟩, ⟨some 97, none, .mv (.t 105)⟩, ⟨some 106, none, .ext 0 (.t 97)⟩, ⟨some 107, none, .ext 1 (.t 97)⟩, ⟨some 18, none, .mv (.t 106)⟩, ⟨some 19, none, .mv (.t 107)⟩]) (.seq (.rg [⟨some 20, none, .mv (.k (.int .i64 0))⟩]) (.seq (.seq (.rg [⟨some 108, none, .fa 5 (.t 7)⟩, ⟨some 109, none, .ld 1 false (.t 108)⟩, ⟨some 110, none, .bin .gtr .leaf (.t 109) (.k (.int .i64 0))⟩]) (.cond (.t 110) (.rg [⟨some 112, none, .fa 0 (.t 6)⟩, ⟨some 113, none, .ld 1 false (.t 112)⟩, ⟨some 114, none, .fa 0 (.t 15)⟩, ⟨some 115, none, .ld 1 false (.t 114)⟩, ⟨some 116, none, .fa 5 (.t 7)⟩, ⟨some 117, none, .ld 1 false (.t 116)⟩, ⟨some 118, none, .conv .u64 (.t 117)⟩, ⟨some 119, none, .build [.int .i64 0, .int .i64 0, .int .u64 0] [(0, 1, .t 115), (1, 1, .k (.int .i64 3)), (2, 1, .t 118)]⟩, ⟨some 120, none, .call 45 [.t 113, .t 119]⟩, ⟨some 111, none, .mv (.t 120)⟩, ⟨some 121, none, .ext 0 (.t 111)⟩, ⟨some 122, none, .ext 1 (.t 111)⟩, ⟨some 20, none, .mv (.t 121)⟩]) .skip)) (.seq (.rg [⟨some 123, none, .mv (.t 0)⟩, ⟨some 124, none, .fa 0 (.t 15)⟩, ⟨some 125, none, .ld 1 false (.t 124)⟩, ⟨some 126, none, .fa 1 (.t 15)⟩, ⟨some 127, none, .ld 1 false (.t 126)⟩, ⟨some 128, none, .call 22 [.t 123, .t 125, .t 127]⟩, ⟨some 129, none, .mv (.t 16)⟩, ⟨some 130, none, .bin .neq .leaf (.t 128) (.t 129)⟩, ⟨some 131, none, .mv (.t 130)⟩, ⟨some 132, some (131, false), .mv (.t 0)⟩, ⟨some 133, some (131, false), .fa 0 (.t 15)⟩, ⟨some 134, some (131, false), .ld 1 false (.t 133)⟩, ⟨some 135, some (131, false), .fa 2 (.t 15)⟩, ⟨some 136, some (131, false), .ld 1 false (.t 135)⟩, ⟨some 137, some (131, false), .call 46 [.t 132, .t 134, .t 136]⟩, ⟨some 138, some (131, false), .mv (.t 18)⟩, ⟨some 139, some (131, false), .bin .neq .leaf (.t 137) (.t 138)⟩, ⟨some 140, none, .pick (.t 131) (.k (.bool true)) (.t 139)⟩, ⟨some 141, none, .mv (.t 140)⟩, ⟨some 142, some (141, false), .mv (.t 0)⟩, ⟨some 143, some (141, false), .fa 0 (.t 15)⟩, ⟨some 144, some (141, false), .ld 1 false (.t 143)⟩, ⟨some 145, some (141, false), .fa 5 (.t 7)⟩, ⟨some 146, some (141, false), .ld 1 false (.t 145)⟩, ⟨some 147, some (141, false), .call 23 [.t 142, .t 144, .t 146]⟩, ⟨some 148, some (141, false), .mv (.t 20)⟩, ⟨some 149, some (141, false), .bin .neq .leaf (.t 147) (.t 148)⟩, ⟨some 150, none, .pick (.t 141) (.k (.bool true)) (.t 149)⟩]) (.cond (.t 150) (.seq (.rg [⟨some 8, none, .mv (.k (.bool false))⟩]) .ret) .skip)))))))) (.rg [⟨some 78, none, .mv (.t 14)⟩, ⟨some 79, none, .bin .add .leaf (.t 78) (.k (.int .i64 1))⟩, ⟨some 14, none, .mv (.t 79)⟩])))))) (.seq (.rg [⟨some 8, none, .mv (.k (.bool true))⟩]) .ret))))))⟩ := by kernel_rfl

theorem bal_tup (ql : AcL) (f : Slot → Option Int) (a : Int) : ∃ n m, balS ql f a = .tup [.int .i64 n, .int .i64 m] := by
  unfold balS
  split
  · split
    · exact ⟨_, _, rfl⟩
    · exact ⟨_, _, rfl⟩
  · exact ⟨_, _, rfl⟩
section
variable {X : List O} {tk : Tks} {lo bid cid kid mid : Nat} {ql : AcL} {f : Slot → Option Int} {E : List Ent} {cl : Int}
set_option maxHeartbeats 4000000 in
theorem tells_b (h : BkR X lo bid cid kid mid ql f E cl) (hT : TotI f E) (hnz : ∀ s, -9223372036854775808 < (f s).getD 0) (hE : ∀ e ∈ E, e.R ∧ e.hd) (hl : E.length ≤ 900) (x : At) (hx : x.R) (hxl : x.e.L.length ≤ 20) :
    ACalls E0 15 [.po bid 0, .po cid 0, qD E cl, .agg x.cs] X tk (fun r S' tk' => r = .bool true ∧ S' = X ∧ tk' = tk) := by
  have hA : ∀ J : List O, BkR (X ++ J) lo bid cid kid mid ql f E cl := fun J => h.app J
  have hok := h.ok
  have hq := h.lq
  have hI := h.I
  have hel : (entR E).length = E.length := by simp [entR]
  have hll := lns_len x.e.L
  obtain ⟨n, m, hb⟩ := bal_tup ql f x.a.code
  have hbp := Balance_p hok hq hT hI hE hl cl x.a.code
  rw [hb] at hbp
  have htp := Trial_p hq hT hI hnz hE hl cl
  have htl : (triL ql f).length < 4611686018427387904 := by have := triL_len ql f; omega
  have hsm := sameB (triL ql f) (triL ql f) htl htl
  rw [decide_eq_true rfl] at hsm
  obtain ⟨vid, ety, hbb, -⟩ := h.b
  have hbl := (List.getElem?_eq_some_iff.1 hbb).1
  have hcl := (List.getElem?_eq_some_iff.1 h.c).1
  have hall : ∀ (J : List O) (tk : Tks), ACalls E0 9 [.po cid 0] (X ++ J) tk (fun r S' tk' => r = .sl (acsL ql) ∧ S' = X ++ J ∧ tk' = tk) := fun J tk => by
    obtain ⟨oc, hkc, hcc⟩ := (hA J).k
    exact all_cN hok hcc (hA J).c hkc hq
  refine ACalls.fgo c15 rfl fun hS => ?_
  repeat' first | with_reducible refine fzD_ite (fun q => ?_) (fun q => ?_) | ((try conv => whnf); first | refine bs_t (decide_eq_true rfl) ?_ | refine bs_t (decide_eq_true (show ((E.length : Nat) : Int) = ((entR E).length : Nat) by rw [hel])) ?_ | refine bs_d (fun q => ?_) (fun q => ?_) | refine bs_n ?_ | refine bs_i (fun q => ?_) (fun q => ?_) | refine ckA rfl rfl (hall _ _) ?_ | refine cqA (hall _ _) ?_ | refine ckA rfl rfl (balK (hA _) x.a.code hb) ?_ | refine ckz (hbp) ?_ | refine cq (hbp) ?_ | refine ckA rfl rfl (closedK (hA _)) ?_ | refine cqA (closedK (hA _)) ?_ | refine ckA rfl rfl (lenK (hA _)) ?_ | refine cqA (lenK (hA _)) ?_ | refine ckA rfl rfl (triK (hA _) rfl) ?_ | refine cqA (triK (hA _) rfl) ?_ | refine ckz (htp) ?_ | refine cq (htp) ?_ | refine ckz (hsm) ?_ | refine cq (hsm) ?_ | refine eqk rfl ?_ | refine ffin _ rfl rfl hS (Sub.refl _) rfl ⟨?_, rfl, rfl⟩)
  conv => whnf
  refine floop (α := Nat) rfl rfl hS (fun i => i ≤ x.e.L.length) (fun i => x.e.L.length - i) (fun i => [(14, .d (.int .i64 i)), (0, .d (.po bid 0)), (6, .lp 0 0), (7, .lp 1 0)]) (fun _ => [.arr [.sl (entR E), .int .i64 cl], .arr x.cs]) (fun _ => []) 0 (Nat.zero_le _) (fstep_sub ⟨Sub.refl _, Sub.refl _, Sub.refl _, Sub.refl _, trivial⟩) ?_
  intro i hi
  by_cases hlt : i < x.e.L.length
  · have hiy := iaD_ln (l := x.e.L) (i := i) (n := (i : Int)) rfl hlt
    generalize x.e.L[i]! = y at hiy
    obtain ⟨u, hu⟩ : ∃ u, u = (f (y.acc, 1, y.cus)).getD 0 := ⟨_, rfl⟩
    obtain ⟨v, hv⟩ : ∃ u, u = (f (y.acc, 2, y.con)).getD 0 := ⟨_, rfl⟩
    have s1 : Pure 45 [.sl (entR E), .agg [.int .i64 y.acc, .int .i64 1, .int .u64 y.cus]] (.tup [.int .i64 u, .bool true]) := own_p hT hI hE hl (y.acc, 1, y.cus) ⟨.inr (.inl rfl), fun h => by cases h⟩ hu.symm
    have s2 : Pure 45 [.sl (entR E), .agg [.int .i64 y.acc, .int .i64 2, .int .u64 y.con]] (.tup [.int .i64 v, .bool true]) := own_p hT hI hE hl (y.acc, 2, y.con) ⟨.inr (.inr (.inl rfl)), fun h => by cases h⟩ hv.symm
    have hmo := hx.mo
    unfold I64 at hmo
    by_cases hm : x.mo > 0
    · have hw : IntKind.wrap .u64 x.mo = x.mo := wu64_id (by unfold U64; omega)
      obtain ⟨w, hwv⟩ : ∃ u, u = (f (y.acc, 3, x.mo)).getD 0 := ⟨_, rfl⟩
      have s3 : Pure 45 [.sl (entR E), .agg [.int .i64 y.acc, .int .i64 3, .int .u64 (IntKind.wrap .u64 x.mo)]] (.tup [.int .i64 w, .bool true]) := by
        rw [hw]; exact own_p hT hI hE hl (y.acc, 3, x.mo) ⟨.inr (.inr (.inr rfl)), fun h => by cases h⟩ hwv.symm
      have hin : inV f y.acc x.mo = w := by rw [inV, if_neg (by omega), hwv]
      repeat' first | with_reducible refine fzD_ite (fun q => ?_) (fun q => ?_) | ((try conv => whnf); first | refine bs_t (decide_eq_true (show (i : Int) < (lns x.e.L).length by omega)) ?_ | refine bs_t (decide_eq_true hm) ?_ | refine bs_t (decide_eq_true rfl) ?_ | refine bs_d (fun q => ?_) (fun q => ?_) | refine bs_n ?_ | refine bs_i (fun q => ?_) (fun q => ?_) | refine pK_i hiy ?_ | refine ckz (s1) ?_ | refine cq (s1) ?_ | refine ckz (s2) ?_ | refine cq (s2) ?_ | refine ckz (s3) ?_ | refine cq (s3) ?_ | refine ckA rfl rfl (ofK (hA _) _ _ hu.symm) ?_ | refine ckA rfl rfl (byK (hA _) _ _ hv.symm) ?_ | refine ckA rfl rfl (inK (hA _) _ _ hx.mo hin) ?_ | refine eqk rfl ?_ | refine ffin _ rfl rfl hS (Sub.refl _) rfl ⟨?_, rfl, rfl⟩)
      conv => whnf
      exact fnext (α := Nat) (i + 1) (by omega) (by omega) (fstep_drop (J' := [.arr [.sl (entR E), .int .i64 cl], .arr x.cs]) (Jx := [_]) (TK' := []) (TKx := []) rfl rfl ⟨Sub.int (by first | rfl | omega | (refine Int.sub_eq_zero.mp ?_; simp (disch := ((try unfold I64); omega)) only [wi64_id, td]; omega)), Sub.refl _, Sub.refl _, Sub.refl _, trivial⟩ (by simp [frD, FD.to, frSc, D.sc]; omega) (by simp [oScL, oSc, scL, D.sc, scLL_entR, At.cs, scLL_lns]))
    · have hin : inV f y.acc x.mo = 0 := by rw [inV, if_pos (by omega)]
      repeat' first | with_reducible refine fzD_ite (fun q => ?_) (fun q => ?_) | ((try conv => whnf); first | refine bs_t (decide_eq_true (show (i : Int) < (lns x.e.L).length by omega)) ?_ | refine bs_f (decide_eq_false hm) ?_ | refine bs_t (decide_eq_true rfl) ?_ | refine bs_d (fun q => ?_) (fun q => ?_) | refine bs_n ?_ | refine bs_i (fun q => ?_) (fun q => ?_) | refine pK_i hiy ?_ | refine ckz (s1) ?_ | refine cq (s1) ?_ | refine ckz (s2) ?_ | refine cq (s2) ?_ | refine ckA rfl rfl (ofK (hA _) _ _ hu.symm) ?_ | refine ckA rfl rfl (byK (hA _) _ _ hv.symm) ?_ | refine ckA rfl rfl (inK (hA _) _ _ hx.mo hin) ?_ | refine eqk rfl ?_ | refine ffin _ rfl rfl hS (Sub.refl _) rfl ⟨?_, rfl, rfl⟩)
      conv => whnf
      exact fnext (α := Nat) (i + 1) (by omega) (by omega) (fstep_drop (J' := [.arr [.sl (entR E), .int .i64 cl], .arr x.cs]) (Jx := [_]) (TK' := []) (TKx := []) rfl rfl ⟨Sub.int (by first | rfl | omega | (refine Int.sub_eq_zero.mp ?_; simp (disch := ((try unfold I64); omega)) only [wi64_id, td]; omega)), Sub.refl _, Sub.refl _, Sub.refl _, trivial⟩ (by simp [frD, FD.to, frSc, D.sc]; omega) (by simp [oScL, oSc, scL, D.sc, scLL_entR, At.cs, scLL_lns]))
  · skip
    repeat' first | with_reducible refine fzD_ite (fun q => ?_) (fun q => ?_) | ((try conv => whnf); first | refine bs_f (decide_eq_false (show ¬ (i : Int) < (lns x.e.L).length by omega)) ?_ | refine bs_d (fun q => ?_) (fun q => ?_) | refine bs_n ?_ | refine bs_i (fun q => ?_) (fun q => ?_) | refine eqk rfl ?_ | refine ffin _ rfl rfl hS (Sub.refl _) rfl ⟨?_, rfl, rfl⟩)
    all_goals rfl
end
theorem c3 : cFun E0.P 3 = some ⟨163, [(2, none)], .seq (.rg [⟨some 2, none, .mv (.k (.bool false))⟩]) (.seq (.seq (.rg [⟨some 18, none, .mv (.t 0)⟩, ⟨some 19, none, .call 4 [.t 18]⟩]) (.cond (.t 19) (.seq (.rg [⟨some 20, none, .call 5 []⟩, ⟨some 2, none, .mv (.t 20)⟩]) .ret) .skip)) (.seq (.rg [⟨some 21, none, .call 6 []⟩, ⟨some 3, none, .mv (.t 21)⟩]) (.seq (.rg [⟨some 22, none, .mv (.t 3)⟩, ⟨some 23, none, .call 7 [.t 22]⟩, ⟨some 4, none, .mv (.t 23)⟩]) (.seq (.rg [⟨some 5, none, .alloc [.nilsl, .int .i64 0] 31⟩]) (.seq (.seq (.rg [⟨some 6, none, .mv (.k (.int .i64 0))⟩]) (.block 0 (.loop (.seq (.seq (.rg [⟨some 24, none, .mv (.t 6)⟩, ⟨some 25, none, .mv (.t 0)⟩, ⟨some 26, none, .len 1 (.t 25)⟩, ⟨some 27, none, .bin .lss .leaf (.t 24) (.t 26)⟩]) (.cond (.t 27) .skip (.exit 0))) (.seq (.block 1 (.seq (.rg [⟨some 30, none, .mv (.t 0)⟩, ⟨some 31, none, .mv (.t 6)⟩, ⟨some 32, none, .ia 11 (.t 30) (.t 31)⟩, ⟨some 33, none, .ld 11 true (.t 32)⟩, ⟨some 7, none, .alloc [.int .u8 0, .int .i64 0, .int .u8 0, .int .u64 0, .nilsl, .int .i64 0, .int .i64 0, .int .i64 0, .int .u8 0, .str ⟨#[]⟩, .bool false] 39⟩, ⟨none, none, .st 11 (.t 7) (.t 33)⟩]) (.seq (.rg [⟨some 8, none, .mv (.k (.int .i64 0))⟩]) (.seq (.seq (.rg [⟨some 34, none, .fa 0 (.t 7)⟩, ⟨some 35, none, .ld 1 false (.t 34)⟩, ⟨some 36, none, .bin .rem .leaf (.t 35) (.k (.int .u8 4))⟩]) (.block 2 (.seq (.rg [⟨some 38, none, .bin .eql .leaf (.t 36) (.k (.int .u8 0))⟩, ⟨some 37, none, .mv (.t 38)⟩]) (.cond (.t 37) (.seq (.rd [(⟨some 40, none, .mv (.t 3)⟩, none), (⟨some 41, none, .call 9 [.t 40]⟩, none), (⟨some 42, none, .ld 2 true (.t 5)⟩, none), (⟨some 43, none, .fa 1 (.t 7)⟩, none), (⟨some 44, none, .ld 4 true (.t 43)⟩, none), (⟨some 45, none, .call 8 [.t 41, .t 42, .t 44]⟩, some []), (⟨some 39, none, .mv (.t 45)⟩, none), (⟨some 46, none, .ext 0 (.t 39)⟩, none), (⟨some 47, none, .ext 1 (.t 39)⟩, none), (⟨none, none, .st 2 (.t 5) (.t 46)⟩, some []), (⟨some 8, none, .mv (.t 47)⟩, none)]) (.seq (.rg [⟨some 49, none, .mv (.t 4)⟩, ⟨some 50, none, .fa 1 (.t 7)⟩, ⟨some 51, none, .ld 4 true (.t 50)⟩, ⟨some 52, none, .call 10 [.t 49, .t 51]⟩, ⟨some 48, none, .mv (.t 52)⟩, ⟨some 53, none, .ext 0 (.t 48)⟩, ⟨some 54, none, .ext 1 (.t 48)⟩, ⟨some 9, none, .mv (.t 53)⟩, ⟨some 10, none, .mv (.t 54)⟩]) (.seq (.rg [⟨some 55, none, .mv (.t 10)⟩, ⟨some 56, none, .mv (.t 8)⟩, ⟨some 57, none, .bin .neq .leaf (.t 55) (.t 56)⟩, ⟨some 58, none, .mv (.t 57)⟩, ⟨some 59, some (58, false), .mv (.t 10)⟩, ⟨some 60, some (58, false), .bin .eql .leaf (.t 59) (.k (.int .i64 0))⟩, ⟨some 61, some (58, false), .mv (.t 60)⟩, ⟨some 62, some (61, true), .mv (.t 9)⟩, ⟨some 63, some (61, true), .fa 0 (.t 5)⟩, ⟨some 64, some (61, true), .ld 1 false (.t 63)⟩, ⟨some 65, some (61, true), .len 1 (.t 64)⟩, ⟨some 66, some (61, true), .conv .u64 (.t 65)⟩, ⟨some 67, some (61, true), .bin .neq .leaf (.t 62) (.t 66)⟩, ⟨some 68, some (58, false), .pick (.t 61) (.t 67) (.k (.bool false))⟩, ⟨some 69, none, .pick (.t 58) (.k (.bool true)) (.t 68)⟩, ⟨some 70, none, .mv (.t 69)⟩, ⟨some 71, some (70, false), .mv (.t 10)⟩, ⟨some 72, some (70, false), .bin .neq .leaf (.t 71) (.k (.int .i64 0))⟩, ⟨some 73, some (70, false), .mv (.t 72)⟩, ⟨some 74, some (73, true), .mv (.t 9)⟩, ⟨some 75, some (73, true), .bin .neq .leaf (.t 74) (.k (.int .u64 0))⟩, ⟨some 76, some (70, false), .pick (.t 73) (.t 75) (.k (.bool false))⟩, ⟨some 77, none, .pick (.t 70) (.k (.bool true)) (.t 76)⟩]) (.cond (.t 77) (.seq (.rg [⟨some 2, none, .mv (.k (.bool false))⟩]) .ret) .skip)))) (.seq (.rg [⟨some 79, none, .bin .eql .leaf (.t 36) (.k (.int .u8 1))⟩, ⟨some 78, none, .mv (.t 79)⟩]) (.cond (.t 78) (.seq (.rg [⟨some 81, none, .ld 2 true (.t 5)⟩, ⟨some 82, none, .fa 5 (.t 7)⟩, ⟨some 83, none, .ld 1 false (.t 82)⟩, ⟨some 84, none, .call 11 [.t 81, .t 83]⟩, ⟨some 80, none, .mv (.t 84)⟩, ⟨some 85, none, .ext 0 (.t 80)⟩, ⟨some 86, none, .ext 1 (.t 80)⟩, ⟨none, none, .st 2 (.t 5) (.t 85)⟩, ⟨some 8, none, .mv (.t 86)⟩]) (.seq (.rg [⟨some 87, none, .mv (.t 4)⟩, ⟨some 88, none, .fa 5 (.t 7)⟩, ⟨some 89, none, .ld 1 false (.t 88)⟩, ⟨some 90, none, .call 12 [.t 87, .t 89]⟩, ⟨some 91, none, .mv (.t 8)⟩, ⟨some 92, none, .bin .neq .leaf (.t 90) (.t 91)⟩]) (.cond (.t 92) (.seq (.rg [⟨some 2, none, .mv (.k (.bool false))⟩]) .ret) .skip))) (.seq (.rg [⟨some 94, none, .bin .eql .leaf (.t 36) (.k (.int .u8 2))⟩, ⟨some 93, none, .mv (.t 94)⟩]) (.cond (.t 93) (.rg [⟨some 95, none, .mv (.t 3)⟩, ⟨some 96, none, .fa 6 (.t 7)⟩, ⟨some 97, none, .ld 5 true (.t 96)⟩, ⟨some 98, none, .call 13 [.t 95, .t 97]⟩]) (.seq (.rg [⟨some 100, none, .bin .eql .leaf (.t 36) (.k (.int .u8 3))⟩, ⟨some 99, none, .mv (.t 100)⟩]) (.cond (.t 99) (.rg [⟨some 101, none, .mv (.t 3)⟩, ⟨some 102, none, .fa 6 (.t 7)⟩, ⟨some 103, none, .fa 0 (.t 102)⟩, ⟨some 104, none, .ld 1 false (.t 103)⟩, ⟨some 105, none, .call 14 [.t 101, .t 104]⟩]) .skip)))))))))) (.seq (.rg [⟨some 106, none, .mv (.t 4)⟩, ⟨some 107, none, .mv (.t 3)⟩, ⟨some 108, none, .ld 2 true (.t 5)⟩, ⟨some 109, none, .ld 11 true (.t 7)⟩, ⟨some 110, none, .call 15 [.t 106, .t 107, .t 108, .t 109]⟩, ⟨some 111, none, .un .not (.t 110)⟩]) (.cond (.t 111) (.seq (.rg [⟨some 2, none, .mv (.k (.bool false))⟩]) .ret) .skip)))))) (.rg [⟨some 28, none, .mv (.t 6)⟩, ⟨some 29, none, .bin .add .leaf (.t 28) (.k (.int .i64 1))⟩, ⟨some 6, none, .mv (.t 29)⟩])))))) (.seq (.seq (.rg [⟨some 11, none, .mv (.k (.int .i64 0))⟩]) (.block 3 (.loop (.seq (.seq (.rg [⟨some 112, none, .mv (.t 11)⟩, ⟨some 113, none, .fa 0 (.t 5)⟩, ⟨some 114, none, .ld 1 false (.t 113)⟩, ⟨some 115, none, .len 1 (.t 114)⟩, ⟨some 116, none, .bin .lss .leaf (.t 112) (.t 115)⟩]) (.cond (.t 116) .skip (.exit 3))) (.seq (.block 4 (.seq (.rg [⟨some 120, none, .mv (.t 4)⟩, ⟨some 121, none, .mv (.t 11)⟩, ⟨some 122, none, .bin .add .leaf (.t 121) (.k (.int .i64 1))⟩, ⟨some 123, none, .conv .u64 (.t 122)⟩, ⟨some 124, none, .call 16 [.t 120, .t 123]⟩, ⟨some 119, none, .mv (.t 124)⟩, ⟨some 125, none, .ext 0 (.t 119)⟩, ⟨some 126, none, .ext 1 (.t 119)⟩, ⟨some 12, none, .alloc [.int .i64 0, .int .u8 0, .int .u64 0, .nilsl] 35⟩, ⟨none, none, .st 4 (.t 12) (.t 125)⟩, ⟨some 13, none, .mv (.t 126)⟩]) (.seq (.rd [(⟨some 127, none, .mv (.t 13)⟩, none), (⟨some 128, none, .bin .neq .leaf (.t 127) (.k (.int .i64 0))⟩, none), (⟨some 129, none, .mv (.t 128)⟩, none), (⟨some 130, some (129, false), .ld 4 true (.t 12)⟩, none), (⟨some 131, some (129, false), .fa 0 (.t 5)⟩, none), (⟨some 132, some (129, false), .ld 1 false (.t 131)⟩, none), (⟨some 133, some (129, false), .mv (.t 11)⟩, none), (⟨some 134, some (129, false), .ia 4 (.t 132) (.t 133)⟩, none), (⟨some 135, some (129, false), .ld 4 true (.t 134)⟩, none), (⟨some 136, some (129, false), .call 17 [.t 130, .t 135]⟩, some []), (⟨some 137, some (129, false), .un .not (.t 136)⟩, none), (⟨some 138, none, .pick (.t 129) (.k (.bool true)) (.t 137)⟩, none)]) (.cond (.t 138) (.seq (.rg [⟨some 2, none, .mv (.k (.bool false))⟩]) .ret) .skip)))) (.rg [⟨some 117, none, .mv (.t 11)⟩, ⟨some 118, none, .bin .add .leaf (.t 117) (.k (.int .i64 1))⟩, ⟨some 11, none, .mv (.t 118)⟩])))))) (.seq (.rg [⟨some 140, none, .mv (.t 4)⟩, ⟨some 141, none, .call 16 [.t 140, .k (.int .u64 0)]⟩, ⟨some 139, none, .mv (.t 141)⟩, ⟨some 142, none, .ext 0 (.t 139)⟩, ⟨some 143, none, .ext 1 (.t 139)⟩, ⟨some 14, none, .alloc [.int .i64 0, .int .u8 0, .int .u64 0, .nilsl] 35⟩, ⟨none, none, .st 4 (.t 14) (.t 142)⟩, ⟨some 15, none, .mv (.t 143)⟩]) (.seq (.rg [⟨some 145, none, .mv (.t 4)⟩, ⟨some 146, none, .fa 0 (.t 5)⟩, ⟨some 147, none, .ld 1 false (.t 146)⟩, ⟨some 148, none, .len 1 (.t 147)⟩, ⟨some 149, none, .bin .add .leaf (.t 148) (.k (.int .i64 1))⟩, ⟨some 150, none, .conv .u64 (.t 149)⟩, ⟨some 151, none, .call 16 [.t 145, .t 150]⟩, ⟨some 144, none, .mv (.t 151)⟩, ⟨some 152, none, .ext 0 (.t 144)⟩, ⟨some 153, none, .ext 1 (.t 144)⟩, ⟨some 16, none, .alloc [.int .i64 0, .int .u8 0, .int .u64 0, .nilsl] 35⟩, ⟨none, none, .st 4 (.t 16) (.t 152)⟩, ⟨some 17, none, .mv (.t 153)⟩]) (.seq (.rg [⟨some 154, none, .mv (.t 15)⟩, ⟨some 155, none, .bin .eql .leaf (.t 154) (.k (.int .i64 7))⟩, ⟨some 156, none, .mv (.t 155)⟩, ⟨some 157, some (156, true), .mv (.t 17)⟩, ⟨some 158, some (156, true), .bin .eql .leaf (.t 157) (.k (.int .i64 7))⟩, ⟨some 159, none, .pick (.t 156) (.t 158) (.k (.bool false))⟩, ⟨some 160, none, .mv (.t 159)⟩, ⟨some 161, some (160, true), .call 5 []⟩, ⟨some 162, none, .pick (.t 160) (.t 161) (.k (.bool false))⟩, ⟨some 2, none, .mv (.t 162)⟩]) .ret)))))))))⟩ := by kernel_rfl

theorem BkR.turn {S J : List O} {bid cid kid mid : Nat} {ql : AcL} {f : Slot → Option Int} {E : List Ent} {closed : Int} {k : Nat} {cs cs' : List D} (h : BkR (S ++ J) S.length bid cid kid mid ql f E closed) (hk : J[k]? = some (.arr cs)) (h1 : S.length + k ≠ bid) (h2 : S.length + k ≠ cid) :
    BkR (S ++ J.set k (.arr cs')) S.length bid cid kid mid ql f E closed := by
  obtain ⟨vid, ety, hb, hv⟩ := h.b
  obtain ⟨oc, hkk, hch⟩ := h.k
  obtain ⟨om, hm, hf⟩ := h.m
  have hX : (S ++ J)[S.length + k]? = some (.arr cs) := by rw [lk]; exact hk
  have e : S ++ J.set k (.arr cs') = (S ++ J).set (S.length + k) (.arr cs') := (ls k _).symm
  have n1 : S.length + k ≠ kid := fun hh => by rw [hh, hkk] at hX; exact (ch_ne hch).1 _ (Option.some.inj hX)
  have n2 : S.length + k ≠ mid := fun hh => by rw [hh, hm] at hX; exact (nw_ne hf).1 _ (Option.some.inj hX)
  rw [e]
  refine ⟨⟨vid, ety, by rw [List.getElem?_set_ne h1]; exact hb, fun hE => ?_⟩, by rw [List.getElem?_set_ne h2]; exact h.c, ⟨oc, by rw [List.getElem?_set_ne n1]; exact hkk, hch⟩, ⟨om, by rw [List.getElem?_set_ne n2]; exact hm, hf⟩, h.ok, h.lq, h.lo, h.I⟩
  obtain ⟨v1, v2, v3⟩ := hv hE
  have n3 : S.length + k ≠ vid := fun hh => by rw [hh, v1] at hX; cases hX
  exact ⟨by rw [List.getElem?_set_ne n3]; exact v1, v2, v3⟩
theorem own_of {S J J' : List O} {kid k : Nat} {o : O} (h : ∀ id, id ≠ kid → (S ++ J')[id]? = (S ++ J)[id]?) (hk : J[k]? = some o) (hne : S.length + k ≠ kid) : J'[k]? = some o := by
  have := h _ hne
  rw [lk, lk] at this
  rw [this, hk]
structure BeS where
  i : Nat
  J : List O
  ql : AcL
  f : Slot → Option Int
  E : List Ent
  cl : Int
structure BeS.P (s : BeS) (S : List O) (n : Nat) : Prop where
  i : s.i ≤ n
  E : s.E.length ≤ s.i
  q : s.ql.length ≤ stdB.length + s.i
  B : BkR (S ++ s.J) S.length (S.length + 3) (S.length + 1) S.length (S.length + 2) s.ql s.f s.E s.cl
  T : TrI s.ql s.f
  tot : TotI s.f s.E
  en : ∀ e ∈ s.E, e.R ∧ e.hd
  k : s.J[4]? = some (.arr [.sl (entR s.E), .int .i64 s.cl])
structure BjS where
  i : Nat
  J : List O
theorem nextE_len0 {ql : AcL} {f : Slot → Option Int} {cl : Int} {E : List Ent} {e : Ent} (h : postN ql f cl e = 0) : (nextE ql f cl E e).length = E.length + 1 := by
  rw [nextE, if_pos h]; simp
set_option maxHeartbeats 8000000 in
theorem booksTell (l : List At) (hR : ∀ x ∈ l, x.R) (hlm : l.length ≤ maxLen) : Pure 3 [.sl (ats l)] (.bool true) := by
  intro S tk
  have hla := ats_len l
  have hgr := great l hlm
  have hsl := stdB_len
  cases hg : greatB l with
  | true =>
    rw [hg] at hgr
    refine ACalls.fgo c3 rfl fun hS => ?_
    repeat' first | with_reducible refine fzD_ite (fun q => ?_) (fun q => ?_) | ((try conv => whnf); first | refine bs_d (fun q => ?_) (fun q => ?_) | refine bs_n ?_ | refine bs_i (fun q => ?_) (fun q => ?_) | refine ckz (hgr) ?_ | refine cq (hgr) ?_ | refine ckz (head_b) ?_ | refine cq (head_b) ?_ | refine eqk rfl ?_ | refine ffin _ rfl rfl hS (Sub.refl _) rfl ⟨?_, rfl, rfl⟩)
    all_goals rfl
  | false =>
  rw [hg] at hgr
  have hg2 := hg
  unfold greatB at hg2
  simp only [Bool.or_eq_false_iff, decide_eq_false_iff_not] at hg2
  have h16 : l.length ≤ 16 := by omega
  have h20 : ∀ x ∈ l, x.e.L.length ≤ 20 := fun x hx => by
    have := List.any_eq_false.1 hg2.1 x hx
    unfold bigA at this
    simp only [Bool.or_eq_true, decide_eq_true_eq, not_or] at this
    omega
  refine ACalls.fgoC c3 rfl [12, 34, 37, 38] rfl fun hS => ?_
  repeat' first | with_reducible refine fzD_ite (fun q => ?_) (fun q => ?_) | ((try conv => whnf); first | refine bs_d (fun q => ?_) (fun q => ?_) | refine bs_n ?_ | refine bs_i (fun q => ?_) (fun q => ?_) | refine ckz (hgr) ?_ | refine cq (hgr) ?_ | (refine ckNE (G := fun r o => r = .po (S.length + 1) 0 ∧ Ch (look stdB) o) (Jn := fun o => [o, .arr [.map S.length]]) (ds' := []) rfl rfl (std_atB (by simp)) .nil ?_; rintro r o ⟨rfl, hch⟩) | (refine ckN (d := .po (S.length + 2 + 1) 0) (Jn := [.map kSl (MG.entKv sD []) 0, .arr [.po (S.length + 1) 0, .nilsl, .map (S.length + 2), .int .i64 0]]) rfl rfl (new_at (by simp)) ?_; have hB0 := bk_new (S := S) hch stdB_ok.1 stdB_ok.2) | refine eqk rfl ?_ | refine ffin _ rfl rfl hS (Sub.refl _) rfl ⟨?_, rfl, rfl⟩)
  conv => whnf
  refine floop (α := BeS) rfl rfl hS (fun s => s.P S l.length) (fun s => l.length - s.i) (fun s => [(6, .d (.int .i64 s.i)), (4, .d (.po (S.length + 3) 0)), (3, .d (.po (S.length + 1) 0)), (5, .d (.po (S.length + 4) 0)), (0, .d (.sl (ats l)))]) (fun s => s.J) (fun _ => []) ⟨0, [o, .arr [.map S.length], .map kSl (MG.entKv sD []) 0, .arr [.po (S.length + 1) 0, .nilsl, .map (S.length + 2), .int .i64 0], .arr [.sl (entR []), .int .i64 0]], stdB, noneF, [], 0⟩ ⟨Nat.zero_le _, Nat.le_refl _, Nat.le_refl _, hB0.own _, TrI.none _, TotI.none, by simp, rfl⟩ (fstep_objsub (k := 4) (cs := [.nilsl, .int .i64 0]) rfl 0 (d := .nilsl) (d' := .sl (entR [])) rfl (Sub.rd rfl) (by exact ⟨Sub.refl _, Sub.refl _, Sub.refl _, Sub.refl _, Sub.refl _, trivial⟩)) ?_
  rintro ⟨i, J, ql, f, E, cl⟩ hP
  have hi : i ≤ l.length := hP.i
  have hE : E.length ≤ i := hP.E
  have hq : ql.length ≤ stdB.length + i := hP.q
  have hB : BkR (S ++ J) S.length (S.length + 3) (S.length + 1) S.length (S.length + 2) ql f E cl := hP.B
  have hT : TrI ql f := hP.T
  have htot : TotI f E := hP.tot
  have hen : ∀ e ∈ E, e.R ∧ e.hd := hP.en
  have hk : J[4]? = some (.arr [.sl (entR E), .int .i64 cl]) := hP.k
  have hJ5 : 4 < J.length := (List.getElem?_eq_some_iff.1 hk).1
  have hel : (entR E).length = E.length := by simp [entR]
  clear hP
  simp only
  by_cases hlt : i < l.length
  · have hx := hR _ (mem_at hlt)
    have hxl := h20 _ (mem_at hlt)
    have hix := iaD_at (l := l) (i := i) (n := (i : Int)) rfl hlt
    generalize l[i]! = x at hx hix hxl
    have hok := hB.ok
    repeat' first | with_reducible refine fzD_ite (fun q => ?_) (fun q => ?_) | ((try conv => whnf); first | refine bs_t (decide_eq_true (show (i : Int) < (ats l).length by omega)) ?_ | refine bs_d (fun q => ?_) (fun q => ?_) | refine bs_n ?_ | refine bs_i (fun q => ?_) (fun q => ?_) | refine eqk rfl ?_ | refine ffin _ rfl rfl hS (Sub.refl _) rfl ⟨?_, rfl, rfl⟩)
    conv => whnf
    refine fcut (α := List O) rfl (fun J1 => J1 = J ++ [.arr x.cs]) (fun _ => [(6, .d (.int .i64 i)), (4, .d (.po (S.length + 3) 0)), (3, .d (.po (S.length + 1) 0)), (5, .d (.po (S.length + 4) 0)), (0, .d (.sl (ats l))), (7, .d (.po (S.length + J.length) 0))]) (fun _ => S) (fun J1 => J1) (fun _ => []) (fun _ _ => ⟨rfl, hS⟩) ?_ ?_
    · skip
      repeat' first | with_reducible refine fzD_ite (fun q => ?_) (fun q => ?_) | ((try conv => whnf); first | refine bs_d (fun q => ?_) (fun q => ?_) | refine bs_n ?_ | refine bs_i (fun q => ?_) (fun q => ?_) | refine pK_i hix ?_ | refine fzK_go ?_ | refine fzL_go ?_ | rw [List.getElem?_concat_length] | refine eqk rfl ?_ | refine ffin _ rfl rfl hS (Sub.refl _) rfl ⟨?_, rfl, rfl⟩)
      conv => whnf
      exact fcnext (α := List O) _ rfl rfl (fstep_J (set_last _ _ _) ⟨Sub.refl _, Sub.refl _, Sub.refl _, Sub.refl _, Sub.refl _, Sub.refl _, trivial⟩)
    intro J1 hJ1
    have hB1 : BkR (S ++ J1) S.length (S.length + 3) (S.length + 1) S.length (S.length + 2) ql f E cl := hJ1 ▸ hB.own (.arr x.cs)
    have hk1 : J1[J.length]? = some (.arr x.cs) := by rw [hJ1]; exact mem_last _ _
    have hq1 : J1[4]? = some (.arr [.sl (entR E), .int .i64 cl]) := by rw [hJ1, List.getElem?_append_left hJ5]; exact hk
    clear hJ1
    have hall : ∀ tk : Tks, ACalls E0 9 [.po (S.length + 1) 0] (S ++ J1) tk (fun r S' tk' => r = .sl (acsL ql) ∧ S' = S ++ J1 ∧ tk' = tk) := fun tk => by
      obtain ⟨oc, hkc, hcc⟩ := hB1.k
      exact all_cN hok hcc hB1.c hkc hB1.lq
    rcases mod4 hx.what with hw | hw | hw | hw
    · have hlE := nextE_len ql f cl E x.e
      have hrp := Post_p hok hB1.lq htot hen (by omega) cl x.e hx.e
      have hlE0 := fun h => nextE_len0 (E := E) (ql := ql) (f := f) (cl := cl) (e := x.e) h
      have hnu : numP ql f cl E x.e = if postN ql f cl x.e = 0 then ((E.length + 1 : Nat) : Int) else 0 := rfl
      have hpa := fun (X : List O) (hX : BkR X S.length (S.length + 3) (S.length + 1) S.length (S.length + 2) ql f E cl) (tk : Tks) => postA (tk := tk) hX x.e hx.e (by omega)
      have hen2 : ∀ e ∈ nextE ql f cl E x.e, e.R ∧ e.hd := nextE_hd hen hx.e
      have htot2 := htot.post (ql := ql) (cl := cl) (e := x.e)
      have hT2 := hT.post (cl := cl) (e := x.e) hok
      obtain ⟨n, hn⟩ : ∃ n, n = postN ql f cl x.e := ⟨_, rfl⟩
      obtain ⟨num, hnum⟩ : ∃ n, n = numP ql f cl E x.e := ⟨_, rfl⟩
      obtain ⟨f2, hf2⟩ : ∃ n, n = nextF ql f cl x.e := ⟨_, rfl⟩
      obtain ⟨E2, hE2⟩ : ∃ n, n = nextE ql f cl E x.e := ⟨_, rfl⟩
      simp only [← hn, ← hnum, ← hf2, ← hE2] at hrp hlE0 hnu hpa hen2 htot2 hT2 hlE
      clear hn hnum hf2 hE2
      have hel2 : (entR E2).length = E2.length := by simp [entR]
      have hte := fun (X : List O) (hX : BkR X S.length (S.length + 3) (S.length + 1) S.length (S.length + 2) ql f2 E2 cl) (tk : Tks) => tells_b (tk := tk) hX htot2 hT2.nz hen2 (by omega) x hx hxl
      by_cases h0 : n = 0
      · subst h0
        have hl2 := hlE0 rfl
        rw [if_pos rfl] at hnu
        have hwn : num = IntKind.wrap .u64 ((entR E2).length : Nat) := by rw [hel2, hl2, hnu, wu64_id (by unfold U64; omega)]
        repeat' first | with_reducible refine fzD_ite (fun q => ?_) (fun q => ?_) | ((try conv => whnf); first | refine bs_t (decide_eq_true hw) ?_ | refine bs_t (decide_eq_true rfl) ?_ | refine bs_t (decide_eq_true hwn) ?_ | refine bs_d (fun q => ?_) (fun q => ?_) | refine bs_n ?_ | refine bs_i (fun q => ?_) (fun q => ?_) | refine ckA rfl rfl (hall _) ?_ | refine cqA (hall _) ?_ | refine pK_i (ldO_own (k := J.length) rfl hk3 rfl) ?_ | refine pK_i (ldO_own (k := 4) rfl hq3 rfl) ?_ | refine pK_i (ldO_own (k := J.length) rfl hk2 rfl) ?_ | refine pK_i (ldO_own (k := 4) rfl hq1 rfl) ?_ | refine pK_i (ldO_own (k := J.length) rfl hk1 rfl) ?_ | refine ckz (hrp) ?_ | refine cq (hrp) ?_ | (refine gk_stpo_own (k := 4) (d := qD E2 cl) rfl rfl rfl hq1 rfl ⟨rfl, rfl, rfl, by simp⟩ ?_; have hB2 := hB1.turn (cs' := [.sl (entR E2), .int .i64 cl]) hq1 (by omega) (by omega); have hk2 : (J1.set 4 (.arr [.sl (entR E2), .int .i64 cl]))[J.length]? = some (.arr x.cs) := (by rw [List.getElem?_set_ne (by omega)]; exact hk1); have hq2 : (J1.set 4 (.arr [.sl (entR E2), .int .i64 cl]))[4]? = some (.arr [.sl (entR E2), .int .i64 cl]) := List.getElem?_set_self (by have := (List.getElem?_eq_some_iff.1 hk1).1; omega)) | (refine ckBk rfl rfl (hpa _ hB2 _) (SubL.refl _) ?_; rintro r J3 ⟨rfl, hB3, hKp⟩; have hk3 := hKp.own hk2 (by omega) (by omega); have hq3 := hKp.own hq2 (by omega) (by omega)) | refine ckA rfl rfl (hte _ hB3 _) ?_ | refine eqk rfl ?_ | refine ffin _ rfl rfl hS (Sub.refl _) rfl ⟨?_, rfl, rfl⟩)
        conv => whnf
        exact fnext (α := BeS) ⟨i + 1, J3, ql, f2, E2, cl⟩ ⟨by simp only; omega, by simp only; omega, by simp only; omega, hB3, hT2, htot2, hen2, hq3⟩ (by simp only; omega) (fstep_sub ⟨Sub.int (by first | rfl | omega | (refine Int.sub_eq_zero.mp ?_; simp (disch := ((try unfold I64); omega)) only [wi64_id, td]; omega)), Sub.refl _, Sub.refl _, Sub.refl _, Sub.refl _, trivial⟩)
      · rw [if_neg h0] at hnu
        subst hnu
        repeat' first | with_reducible refine fzD_ite (fun q => ?_) (fun q => ?_) | ((try conv => whnf); first | refine bs_t (decide_eq_true hw) ?_ | refine bs_f (decide_eq_false h0) ?_ | refine bs_t (decide_eq_true rfl) ?_ | refine bs_d (fun q => ?_) (fun q => ?_) | refine bs_n ?_ | refine bs_i (fun q => ?_) (fun q => ?_) | refine ckA rfl rfl (hall _) ?_ | refine cqA (hall _) ?_ | refine pK_i (ldO_own (k := J.length) rfl hk3 rfl) ?_ | refine pK_i (ldO_own (k := 4) rfl hq3 rfl) ?_ | refine pK_i (ldO_own (k := J.length) rfl hk2 rfl) ?_ | refine pK_i (ldO_own (k := 4) rfl hq1 rfl) ?_ | refine pK_i (ldO_own (k := J.length) rfl hk1 rfl) ?_ | refine ckz (hrp) ?_ | refine cq (hrp) ?_ | (refine gk_stpo_own (k := 4) (d := qD E2 cl) rfl rfl rfl hq1 rfl ⟨rfl, rfl, rfl, by simp⟩ ?_; have hB2 := hB1.turn (cs' := [.sl (entR E2), .int .i64 cl]) hq1 (by omega) (by omega); have hk2 : (J1.set 4 (.arr [.sl (entR E2), .int .i64 cl]))[J.length]? = some (.arr x.cs) := (by rw [List.getElem?_set_ne (by omega)]; exact hk1); have hq2 : (J1.set 4 (.arr [.sl (entR E2), .int .i64 cl]))[4]? = some (.arr [.sl (entR E2), .int .i64 cl]) := List.getElem?_set_self (by have := (List.getElem?_eq_some_iff.1 hk1).1; omega)) | (refine ckBk rfl rfl (hpa _ hB2 _) (SubL.refl _) ?_; rintro r J3 ⟨rfl, hB3, hKp⟩; have hk3 := hKp.own hk2 (by omega) (by omega); have hq3 := hKp.own hq2 (by omega) (by omega)) | refine ckA rfl rfl (hte _ hB3 _) ?_ | refine eqk rfl ?_ | refine ffin _ rfl rfl hS (Sub.refl _) rfl ⟨?_, rfl, rfl⟩)
        conv => whnf
        exact fnext (α := BeS) ⟨i + 1, J3, ql, f2, E2, cl⟩ ⟨by simp only; omega, by simp only; omega, by simp only; omega, hB3, hT2, htot2, hen2, hq3⟩ (by simp only; omega) (fstep_sub ⟨Sub.int (by first | rfl | omega | (refine Int.sub_eq_zero.mp ?_; simp (disch := ((try unfold I64); omega)) only [wi64_id, td]; omega)), Sub.refl _, Sub.refl _, Sub.refl _, Sub.refl _, trivial⟩)
    · have hrc := Close_p E cl x.mo
      have hpa := fun (X : List O) (hX : BkR X S.length (S.length + 3) (S.length + 1) S.length (S.length + 2) ql f E cl) (tk : Tks) => closeA (tk := tk) hX x.mo
      obtain ⟨n, hn⟩ : ∃ n, n = closeN cl x.mo := ⟨_, rfl⟩
      obtain ⟨c2, hc2⟩ : ∃ n, n = clN cl x.mo := ⟨_, rfl⟩
      simp only [← hn, ← hc2] at hrc hpa
      clear hn hc2
      have hte := fun (X : List O) (hX : BkR X S.length (S.length + 3) (S.length + 1) S.length (S.length + 2) ql f E c2) (tk : Tks) => tells_b (tk := tk) hX htot hT.nz hen (by omega) x hx hxl
      · skip
        repeat' first | with_reducible refine fzD_ite (fun q => ?_) (fun q => ?_) | ((try conv => whnf); first | refine bs_t (decide_eq_true hw) ?_ | refine bs_f (decide_eq_false (show ¬ x.what.tmod 4 = 0 by rw [hw]; decide)) ?_ | refine bs_t (decide_eq_true rfl) ?_ | refine bs_d (fun q => ?_) (fun q => ?_) | refine bs_n ?_ | refine bs_i (fun q => ?_) (fun q => ?_) | refine ckA rfl rfl (hall _) ?_ | refine cqA (hall _) ?_ | refine pK_i (ldO_own (k := J.length) rfl hk3 rfl) ?_ | refine pK_i (ldO_own (k := 4) rfl hq3 rfl) ?_ | refine pK_i (ldO_own (k := J.length) rfl hk2 rfl) ?_ | refine pK_i (ldO_own (k := 4) rfl hq1 rfl) ?_ | refine pK_i (ldO_own (k := J.length) rfl hk1 rfl) ?_ | refine ckz (hrc) ?_ | refine cq (hrc) ?_ | (refine gk_stpo_own (k := 4) (d := qD E c2) rfl rfl rfl hq1 rfl ⟨rfl, rfl, rfl, by simp⟩ ?_; have hB2 := hB1.turn (cs' := [.sl (entR E), .int .i64 c2]) hq1 (by omega) (by omega); have hk2 : (J1.set 4 (.arr [.sl (entR E), .int .i64 c2]))[J.length]? = some (.arr x.cs) := (by rw [List.getElem?_set_ne (by omega)]; exact hk1); have hq2 : (J1.set 4 (.arr [.sl (entR E), .int .i64 c2]))[4]? = some (.arr [.sl (entR E), .int .i64 c2]) := List.getElem?_set_self (by have := (List.getElem?_eq_some_iff.1 hk1).1; omega)) | (refine ckBk rfl rfl (hpa _ hB2 _) (SubL.refl _) ?_; rintro r J3 ⟨rfl, hB3, hKp⟩; have hk3 := hKp.own hk2 (by omega) (by omega); have hq3 := hKp.own hq2 (by omega) (by omega)) | refine ckA rfl rfl (hte _ hB3 _) ?_ | refine eqk rfl ?_ | refine ffin _ rfl rfl hS (Sub.refl _) rfl ⟨?_, rfl, rfl⟩)
        conv => whnf
        exact fnext (α := BeS) ⟨i + 1, J3, ql, f, E, c2⟩ ⟨by simp only; omega, by simp only; omega, by simp only; omega, hB3, hT, htot, hen, hq3⟩ (by simp only; omega) (fstep_sub ⟨Sub.int (by first | rfl | omega | (refine Int.sub_eq_zero.mp ?_; simp (disch := ((try unfold I64); omega)) only [wi64_id, td]; omega)), Sub.refl _, Sub.refl _, Sub.refl _, Sub.refl _, trivial⟩)
    · have hlq : (addR ql (dep (look ql) x.a.up) x.a).length ≤ ql.length + 1 := (add_next (a := x.a) hok (hok.low.ends x.a.up)).1.2
      have TT : TrI (addR ql (dep (look ql) x.a.up) x.a) f := hT.add
      · skip
        repeat' first | with_reducible refine fzD_ite (fun q => ?_) (fun q => ?_) | ((try conv => whnf); first | refine bs_t (decide_eq_true hw) ?_ | refine bs_f (decide_eq_false (show ¬ x.what.tmod 4 = 0 by rw [hw]; decide)) ?_ | refine bs_f (decide_eq_false (show ¬ x.what.tmod 4 = 1 by rw [hw]; decide)) ?_ | refine bs_d (fun q => ?_) (fun q => ?_) | refine bs_n ?_ | refine bs_i (fun q => ?_) (fun q => ?_) | refine ckA rfl rfl (hall _) ?_ | refine cqA (hall _) ?_ | refine pK_i (ldO_own (k := J.length) rfl hk3 rfl) ?_ | refine pK_i (ldO_own (k := 4) rfl hq3 rfl) ?_ | refine pK_i (ldO_own (k := J.length) rfl hk2 rfl) ?_ | refine pK_i (ldO_own (k := 4) rfl hq1 rfl) ?_ | refine pK_i (ldO_own (k := J.length) rfl hk1 rfl) ?_ | (refine ckBk rfl rfl (by rw [List.append_nil]; exact addK hB1 x.a (by omega)) (SubL.refl _) ?_; rintro r J3 ⟨n, rfl, hB3, hsame⟩; have hk3 := own_of hsame hk1 (by omega); have hq3 := own_of hsame hq1 (by omega)) | refine ckA rfl rfl (tells_b hB3 htot TT.nz hen (by omega) x hx hxl) ?_ | refine eqk rfl ?_ | refine ffin _ rfl rfl hS (Sub.refl _) rfl ⟨?_, rfl, rfl⟩)
        conv => whnf
        exact fnext (α := BeS) ⟨i + 1, J3, addR ql (dep (look ql) x.a.up) x.a, f, E, cl⟩ ⟨by simp only; omega, by simp only; omega, by simp only; omega, hB3, TT, htot, hen, hq3⟩ (by simp only; omega) (fstep_sub ⟨Sub.int (by first | rfl | omega | (refine Int.sub_eq_zero.mp ?_; simp (disch := ((try unfold I64); omega)) only [wi64_id, td]; omega)), Sub.refl _, Sub.refl _, Sub.refl _, Sub.refl _, trivial⟩)
    · have hlq : (if shutRE ql x.a.code = 0 then shR ql x.a.code else ql).length = ql.length := (shut_next (c := x.a.code) hok).1.2
      have TT : TrI (if shutRE ql x.a.code = 0 then shR ql x.a.code else ql) f := hT.shut
      · skip
        repeat' first | with_reducible refine fzD_ite (fun q => ?_) (fun q => ?_) | ((try conv => whnf); first | refine bs_t (decide_eq_true hw) ?_ | refine bs_f (decide_eq_false (show ¬ x.what.tmod 4 = 0 by rw [hw]; decide)) ?_ | refine bs_f (decide_eq_false (show ¬ x.what.tmod 4 = 1 by rw [hw]; decide)) ?_ | refine bs_f (decide_eq_false (show ¬ x.what.tmod 4 = 2 by rw [hw]; decide)) ?_ | refine bs_d (fun q => ?_) (fun q => ?_) | refine bs_n ?_ | refine bs_i (fun q => ?_) (fun q => ?_) | refine ckA rfl rfl (hall _) ?_ | refine cqA (hall _) ?_ | refine pK_i (ldO_own (k := J.length) rfl hk3 rfl) ?_ | refine pK_i (ldO_own (k := 4) rfl hq3 rfl) ?_ | refine pK_i (ldO_own (k := J.length) rfl hk2 rfl) ?_ | refine pK_i (ldO_own (k := 4) rfl hq1 rfl) ?_ | refine pK_i (ldO_own (k := J.length) rfl hk1 rfl) ?_ | (refine ckBk rfl rfl (by rw [List.append_nil]; exact shutK hB1 x.a.code) (SubL.refl _) ?_; rintro r J3 ⟨n, rfl, hB3, hsame⟩; have hk3 := own_of hsame hk1 (by omega); have hq3 := own_of hsame hq1 (by omega)) | refine ckA rfl rfl (tells_b hB3 htot TT.nz hen (by omega) x hx hxl) ?_ | refine eqk rfl ?_ | refine ffin _ rfl rfl hS (Sub.refl _) rfl ⟨?_, rfl, rfl⟩)
        conv => whnf
        exact fnext (α := BeS) ⟨i + 1, J3, (if shutRE ql x.a.code = 0 then shR ql x.a.code else ql), f, E, cl⟩ ⟨by simp only; omega, by simp only; omega, by simp only; omega, hB3, TT, htot, hen, hq3⟩ (by simp only; omega) (fstep_sub ⟨Sub.int (by first | rfl | omega | (refine Int.sub_eq_zero.mp ?_; simp (disch := ((try unfold I64); omega)) only [wi64_id, td]; omega)), Sub.refl _, Sub.refl _, Sub.refl _, Sub.refl _, trivial⟩)
  repeat' first | with_reducible refine fzD_ite (fun q => ?_) (fun q => ?_) | ((try conv => whnf); first | refine bs_f (decide_eq_false (show ¬ (i : Int) < (ats l).length by omega)) ?_ | refine bs_d (fun q => ?_) (fun q => ?_) | refine bs_n ?_ | refine bs_i (fun q => ?_) (fun q => ?_) | refine eqk rfl ?_ | refine ffin _ rfl rfl hS (Sub.refl _) rfl ⟨?_, rfl, rfl⟩)
  conv => whnf
  refine floop (α := BjS) rfl rfl hS (fun s => s.i ≤ E.length ∧ s.J[4]? = some (.arr [.sl (entR E), .int .i64 cl]) ∧ BkR (S ++ s.J) S.length (S.length + 3) (S.length + 1) S.length (S.length + 2) ql f E cl) (fun s => E.length - s.i) (fun s => [(11, .d (.int .i64 s.i)), (4, .d (.po (S.length + 3) 0)), (5, .d (.po (S.length + 4) 0))]) (fun s => s.J) (fun _ => []) ⟨0, J⟩ ⟨Nat.zero_le _, hk, hB⟩ (fstep_sub ⟨Sub.refl _, Sub.refl _, Sub.refl _, trivial⟩) ?_
  clear hB hk hJ5
  rintro ⟨j, J⟩ ⟨hj, hk, hB⟩
  simp only at hj hk hB ⊢
  have hJ5 : 4 < J.length := (List.getElem?_eq_some_iff.1 hk).1
  by_cases hjl : j < E.length
  · have hat := List.getElem?_eq_getElem hjl
    have hee := hen _ (List.getElem_mem hjl)
    have hix := entR_at (n := (j : Int)) rfl hat
    generalize E[j] = e at hat hee hix
    have hh := hee.2
    unfold Ent.hd at hh
    have hne : e.L ≠ [] := fun hh2 => by rw [hh2] at hh; simp at hh
    have w1 : IntKind.wrap .u64 (IntKind.wrap .i64 ((j : Int) + 1)) = ((j + 1 : Nat) : Int) := by rw [wi64_id (by unfold I64; omega), wu64_id (by unfold U64; omega)]; omega
    have hsm := Same e e (by omega) (by omega)
    rw [Ent.eqB_self] at hsm
    repeat' first | with_reducible refine fzD_ite (fun q => ?_) (fun q => ?_) | ((try conv => whnf); first | refine bs_t (decide_eq_true (show (j : Int) < (entR E).length by omega)) ?_ | refine bs_d (fun q => ?_) (fun q => ?_) | refine bs_n ?_ | refine bs_i (fun q => ?_) (fun q => ?_) | refine pK_i (ldO_own (k := 4) rfl hk rfl) ?_ | refine eqk rfl ?_ | refine ffin _ rfl rfl hS (Sub.refl _) rfl ⟨?_, rfl, rfl⟩)
    conv => whnf
    refine fcut (α := List O) rfl (fun J1 => J1 = J ++ [.arr (entC e)]) (fun _ => [(11, .d (.int .i64 j)), (4, .d (.po (S.length + 3) 0)), (5, .d (.po (S.length + 4) 0)), (12, .d (.po (S.length + J.length) 0)), (13, .d (.int .i64 0))]) (fun _ => S) (fun J1 => J1) (fun _ => []) (fun _ _ => ⟨rfl, hS⟩) ?_ ?_
    · skip
      repeat' first | with_reducible refine fzD_ite (fun q => ?_) (fun q => ?_) | ((try conv => whnf); first | refine bs_d (fun q => ?_) (fun q => ?_) | refine bs_n ?_ | refine bs_i (fun q => ?_) (fun q => ?_) | refine ckA rfl rfl (entry_ok hB (by omega) hat hne (by omega) w1) ?_ | refine fzK_go ?_ | refine fzL_go ?_ | rw [List.getElem?_concat_length] | refine eqk rfl ?_ | refine ffin _ rfl rfl hS (Sub.refl _) rfl ⟨?_, rfl, rfl⟩)
      conv => whnf
      exact fcnext (α := List O) _ rfl rfl (fstep_J (set_last _ _ _) ⟨Sub.refl _, Sub.refl _, Sub.refl _, Sub.refl _, Sub.refl _, trivial⟩)
    intro J1 hJ1
    have hB1 : BkR (S ++ J1) S.length (S.length + 3) (S.length + 1) S.length (S.length + 2) ql f E cl := hJ1 ▸ hB.own (.arr (entC e))
    have hk1 : J1[J.length]? = some (.arr (entC e)) := by rw [hJ1]; exact mem_last _ _
    have hq1 : J1[4]? = some (.arr [.sl (entR E), .int .i64 cl]) := by rw [hJ1, List.getElem?_append_left hJ5]; exact hk
    clear hJ1
    repeat' first | with_reducible refine fzD_ite (fun q => ?_) (fun q => ?_) | ((try conv => whnf); first | refine bs_t (decide_eq_true rfl) ?_ | refine bs_d (fun q => ?_) (fun q => ?_) | refine bs_n ?_ | refine bs_i (fun q => ?_) (fun q => ?_) | refine pK_i (ldO_own (k := J.length) rfl hk1 rfl) ?_ | refine pK_i (ldO_own (k := 4) rfl hq1 rfl) ?_ | refine pK_i hix ?_ | refine ckz (hsm) ?_ | refine cq (hsm) ?_ | refine eqk rfl ?_ | refine ffin _ rfl rfl hS (Sub.refl _) rfl ⟨?_, rfl, rfl⟩)
    conv => whnf
    exact fnext (α := BjS) ⟨j + 1, J1⟩ ⟨by simp only; omega, hq1, hB1⟩ (by simp only; omega) (fstep_sub ⟨Sub.int (by first | rfl | omega | (refine Int.sub_eq_zero.mp ?_; simp (disch := ((try unfold I64); omega)) only [wi64_id, td]; omega)), Sub.refl _, Sub.refl _, trivial⟩)
  repeat' first | with_reducible refine fzD_ite (fun q => ?_) (fun q => ?_) | ((try conv => whnf); first | refine bs_f (decide_eq_false (show ¬ (j : Int) < (entR E).length by omega)) ?_ | refine bs_d (fun q => ?_) (fun q => ?_) | refine bs_n ?_ | refine bs_i (fun q => ?_) (fun q => ?_) | refine pK_i (ldO_own (k := 4) rfl hk rfl) ?_ | refine eqk rfl ?_ | refine ffin _ rfl rfl hS (Sub.refl _) rfl ⟨?_, rfl, rfl⟩)
  conv => whnf
  refine fcut (α := List O) rfl (fun J1 => J1[4]? = some (.arr [.sl (entR E), .int .i64 cl]) ∧ BkR (S ++ J1) S.length (S.length + 3) (S.length + 1) S.length (S.length + 2) ql f E cl) (fun _ => [(4, .d (.po (S.length + 3) 0)), (5, .d (.po (S.length + 4) 0)), (15, .d (.int .i64 7))]) (fun _ => S) (fun J1 => J1) (fun _ => []) (fun _ _ => ⟨rfl, hS⟩) ?_ ?_
  · skip
    repeat' first | with_reducible refine fzD_ite (fun q => ?_) (fun q => ?_) | ((try conv => whnf); first | refine bs_d (fun q => ?_) (fun q => ?_) | refine bs_n ?_ | refine bs_i (fun q => ?_) (fun q => ?_) | refine ckA rfl rfl (entry_no hB (by omega) 0 (by omega) (.inl (by omega))) ?_ | refine fzK_go ?_ | refine fzL_go ?_ | rw [List.getElem?_concat_length] | refine eqk rfl ?_ | refine ffin _ rfl rfl hS (Sub.refl _) rfl ⟨?_, rfl, rfl⟩)
    conv => whnf
    exact fcnext (α := List O) (J ++ [.arr [.int .i64 0, .int .u8 0, .int .u64 0, .nilsl]]) ⟨by rw [List.getElem?_append_left hJ5]; exact hk, hB.own _⟩ rfl (fstep_J (set_last _ _ _) ⟨Sub.refl _, Sub.refl _, Sub.refl _, trivial⟩)
  clear hB hk hJ5
  rintro J ⟨hk, hB⟩
  have w2 : IntKind.wrap .u64 (IntKind.wrap .i64 (((entR E).length : Nat) + 1 : Int)) = ((E.length + 1 : Nat) : Int) := by rw [hel, wi64_id (by unfold I64; omega), wu64_id (by unfold U64; omega)]; omega
  have hen2 := fun (tk : Tks) => entry_no (tk := tk) hB (by omega) (IntKind.wrap .u64 (IntKind.wrap .i64 (((entR E).length : Nat) + 1 : Int))) (by rw [w2]; omega) (.inr (by rw [w2]; omega))
  conv => whnf
  refine fcut (α := List O) rfl (fun _ => True) (fun _ => [(15, .d (.int .i64 7)), (17, .d (.int .i64 7))]) (fun _ => S) (fun J1 => J1) (fun _ => []) (fun _ _ => ⟨rfl, hS⟩) ?_ ?_
  · skip
    repeat' first | with_reducible refine fzD_ite (fun q => ?_) (fun q => ?_) | ((try conv => whnf); first | refine bs_d (fun q => ?_) (fun q => ?_) | refine bs_n ?_ | refine bs_i (fun q => ?_) (fun q => ?_) | refine pK_i (ldO_own (k := 4) rfl hk rfl) ?_ | refine ckA rfl rfl (hen2 _) ?_ | refine fzK_go ?_ | refine fzL_go ?_ | rw [List.getElem?_concat_length] | refine eqk rfl ?_ | refine ffin _ rfl rfl hS (Sub.refl _) rfl ⟨?_, rfl, rfl⟩)
    conv => whnf
    exact fcnext (α := List O) _ trivial rfl (fstep_J rfl ⟨Sub.refl _, Sub.refl _, trivial⟩)
  intro J _
  repeat' first | with_reducible refine fzD_ite (fun q => ?_) (fun q => ?_) | ((try conv => whnf); first | refine bs_t (decide_eq_true rfl) ?_ | refine bs_d (fun q => ?_) (fun q => ?_) | refine bs_n ?_ | refine bs_i (fun q => ?_) (fun q => ?_) | refine ckz (head_b) ?_ | refine cq (head_b) ?_ | refine eqk rfl ?_ | refine ffin _ rfl rfl hS (Sub.refl _) rfl ⟨?_, rfl, rfl⟩)
  all_goals rfl
end Go.KL.YtkojphmejddhiaaGreatDoor.J
