/- acts on books; which are too great -/
import Derived.Test.YtkojphmejddhiaaDoorBe
set_option linter.unusedVariables false
set_option linter.unusedSimpArgs false
set_option linter.unusedSectionVars false
set_option maxRecDepth 4000
namespace Go.KL.YtkojphmejddhiaaDoor.J
open Go Go.KL Go.RowKit Go.Proofs Go.KL.YtkojphmejddhiaaDoor

theorem c8 : cFun E0.P 8 = some ⟨31, [(2, none)], .seq (.rg [⟨some 2, none, .mv (.k (.bool false))⟩]) (.seq (.seq (.rg [⟨some 3, none, .mv (.k (.int .i64 0))⟩]) (.block 0 (.loop (.seq (.seq (.rg [⟨some 4, none, .mv (.t 3)⟩, ⟨some 5, none, .mv (.t 0)⟩, ⟨some 6, none, .len 1 (.t 5)⟩, ⟨some 7, none, .bin .lss .leaf (.t 4) (.t 6)⟩]) (.cond (.t 7) .skip (.exit 0))) (.seq (.block 1 (.seq (.rg [⟨some 10, none, .mv (.t 0)⟩, ⟨some 11, none, .mv (.t 3)⟩, ⟨some 12, none, .ia 11 (.t 10) (.t 11)⟩, ⟨some 13, none, .fa 1 (.t 12)⟩, ⟨some 14, none, .fa 3 (.t 13)⟩, ⟨some 15, none, .ld 1 false (.t 14)⟩, ⟨some 16, none, .len 1 (.t 15)⟩, ⟨some 17, none, .bin .gtr .leaf (.t 16) (.k (.int .i64 20))⟩, ⟨some 18, none, .mv (.t 17)⟩, ⟨some 19, some (18, false), .mv (.t 0)⟩, ⟨some 20, some (18, false), .mv (.t 3)⟩, ⟨some 21, some (18, false), .ia 11 (.t 19) (.t 20)⟩, ⟨some 22, some (18, false), .fa 6 (.t 21)⟩, ⟨some 23, some (18, false), .fa 3 (.t 22)⟩, ⟨some 24, some (18, false), .ld 1 false (.t 23)⟩, ⟨some 25, some (18, false), .len 0 (.t 24)⟩, ⟨some 26, some (18, false), .bin .gtr .leaf (.t 25) (.k (.int .i64 200))⟩, ⟨some 27, none, .pick (.t 18) (.k (.bool true)) (.t 26)⟩]) (.cond (.t 27) (.seq (.rg [⟨some 2, none, .mv (.k (.bool true))⟩]) .ret) .skip))) (.rg [⟨some 8, none, .mv (.t 3)⟩, ⟨some 9, none, .bin .add .leaf (.t 8) (.k (.int .i64 1))⟩, ⟨some 3, none, .mv (.t 9)⟩])))))) (.seq (.rg [⟨some 28, none, .mv (.t 0)⟩, ⟨some 29, none, .len 1 (.t 28)⟩, ⟨some 30, none, .bin .gtr .leaf (.t 29) (.k (.int .i64 16))⟩, ⟨some 2, none, .mv (.t 30)⟩]) .ret))⟩ := by kernel_rfl

structure At where
  what : Int
  e : Ent
  mo : Int
  a : Go.KL.YtkojphmejddhiaaDoor.Ac
structure At.R (x : At) : Prop where
  what : 0 ≤ x.what ∧ x.what < 256
  e : x.e.R
  mo : I64 x.mo
instance : Inhabited At := ⟨⟨0, ⟨0, 0, 0, []⟩, 0, default⟩⟩
def At.cs (x : At) : List D := [.int .u8 x.what, .int .i64 x.e.day, .int .u8 x.e.kind, .int .u64 x.e.src, .sl (lns x.e.L), .int .i64 x.mo, .int .i64 x.a.code, .int .i64 x.a.up, .int .u8 x.a.cl, .str x.a.nm, .bool x.a.sh]
def ats (l : List At) : List (List D) := l.map At.cs
theorem ats_len (l : List At) : (ats l).length = l.length := List.length_map ..
theorem iaD_at {l : List At} {i : Nat} {n : Int} (h : n = i) (hi : i < l.length) : iaD 11 (.sl (ats l)) (.int .i64 n) = some (.pe (l[i]!).cs 0) := by
  subst h
  exact iaD_map (f := At.cs) (by omega) (by rw [Int.toNat_natCast, List.getElem?_eq_getElem hi, getElem!_pos l i hi]) rfl
theorem scLL_ats (n m : Nat) : ∀ l : List At, scLL n m (ats l) = true
  | [] => rfl
  | x :: l => by
    have h := scLL_ats n m l
    unfold ats at h ⊢
    simp only [List.map_cons, scLL, h, Bool.and_true]
    simp [At.cs, scL, D.sc, scLL_lns]
def bigA (x : At) : Bool := decide (20 < x.e.L.length) || decide (200 < x.a.nm.size)
def greatB (l : List At) : Bool := l.any bigA || decide (16 < l.length)
theorem great (l : List At) (hl : l.length ≤ maxLen) : Pure 8 [.sl (ats l)] (.bool (greatB l)) := by
  intro S tk
  have hlen := ats_len l
  unfold maxLen at hl
  refine ACalls.fgo c8 rfl fun hS => ?_
  repeat' first | with_reducible refine fzD_ite (fun q => ?_) (fun q => ?_) | ((try conv => whnf); first | refine bs_d (fun q => ?_) (fun q => ?_) | refine bs_n ?_ | refine bs_i (fun q => ?_) (fun q => ?_) | refine eqk rfl ?_ | refine ffin _ rfl rfl hS (Sub.refl _) rfl ⟨?_, rfl, rfl⟩)
  refine floop (α := Nat) rfl rfl hS (fun i => i ≤ l.length ∧ (l.take i).any bigA = false) (fun i => l.length - i) (fun i => [(3, .d (.int .i64 i)), (0, .d (.sl (ats l)))]) (fun _ => []) (fun _ => []) 0 ⟨Nat.zero_le _, by simp⟩ (fstep_sub ⟨Sub.refl _, Sub.refl _, trivial⟩) ?_
  rintro i ⟨hi, hb⟩
  by_cases hlt : i < l.length
  · have hll := lns_len (l[i]!).e.L
    have hst : (l.take (i + 1)).any bigA = bigA l[i]! := by rw [take_snA hlt, List.any_append, hb]; simp
    cases hbg : bigA l[i]! with
    | true =>
      have hany : l.any bigA = true := List.any_eq_true.2 ⟨_, mem_at hlt, hbg⟩
      have hres : greatB l = true := by rw [greatB, hany]; rfl
      rw [hres]
      unfold bigA at hbg
      simp only [Bool.or_eq_true, decide_eq_true_eq] at hbg
      repeat' first | with_reducible refine fzD_ite (fun q => ?_) (fun q => ?_) | ((try conv => whnf); first | refine bs_t (decide_eq_true (show (i : Int) < (ats l).length by omega)) ?_ | refine bs_d (fun q => ?_) (fun q => ?_) | refine bs_n ?_ | refine bs_i (fun q => ?_) (fun q => ?_) | refine pK_i (iaD_at (i := i) rfl hlt) ?_ | refine eqk rfl ?_ | refine ffin _ rfl rfl hS (Sub.refl _) rfl ⟨?_, rfl, rfl⟩)
      all_goals first | rfl | (exfalso; omega)
    | false =>
      rw [hbg] at hst
      unfold bigA at hbg
      simp only [Bool.or_eq_false_iff, decide_eq_false_iff_not] at hbg
      repeat' first | with_reducible refine fzD_ite (fun q => ?_) (fun q => ?_) | ((try conv => whnf); first | refine bs_t (decide_eq_true (show (i : Int) < (ats l).length by omega)) ?_ | refine bs_d (fun q => ?_) (fun q => ?_) | refine bs_n ?_ | refine bs_i (fun q => ?_) (fun q => ?_) | refine pK_i (iaD_at (i := i) rfl hlt) ?_ | refine eqk rfl ?_ | refine ffin _ rfl rfl hS (Sub.refl _) rfl ⟨?_, rfl, rfl⟩)
      all_goals first
        | (exfalso; omega)
        | (conv => whnf
           exact fnext (α := Nat) (i + 1) ⟨by omega, hst⟩ (by omega) (fstep_sub ⟨Sub.int (by first | rfl | omega | (refine Int.sub_eq_zero.mp ?_; simp (disch := ((try unfold I64); omega)) only [wi64_id, td]; omega)), Sub.refl _, trivial⟩))
  · rw [List.take_of_length_le (by omega)] at hb
    unfold greatB
    rw [hb, Bool.false_or]
    by_cases h16 : 16 < l.length
    · rw [decide_eq_true h16]
      repeat' first | with_reducible refine fzD_ite (fun q => ?_) (fun q => ?_) | ((try conv => whnf); first | refine bs_f (decide_eq_false (show ¬ (i : Int) < (ats l).length by omega)) ?_ | refine bs_d (fun q => ?_) (fun q => ?_) | refine bs_n ?_ | refine bs_i (fun q => ?_) (fun q => ?_) | refine eqk rfl ?_ | refine ffin _ rfl rfl hS (Sub.refl _) rfl ⟨?_, rfl, rfl⟩)
      all_goals first | rfl | (exfalso; omega)
    · rw [decide_eq_false h16]
      repeat' first | with_reducible refine fzD_ite (fun q => ?_) (fun q => ?_) | ((try conv => whnf); first | refine bs_f (decide_eq_false (show ¬ (i : Int) < (ats l).length by omega)) ?_ | refine bs_d (fun q => ?_) (fun q => ?_) | refine bs_n ?_ | refine bs_i (fun q => ?_) (fun q => ?_) | refine eqk rfl ?_ | refine ffin _ rfl rfl hS (Sub.refl _) rfl ⟨?_, rfl, rfl⟩)
      all_goals first | rfl | (exfalso; omega)
end Go.KL.YtkojphmejddhiaaDoor.J

/- books.May -/
set_option linter.unusedVariables false
set_option linter.unusedSimpArgs false
set_option linter.unusedSectionVars false
set_option maxRecDepth 4000
namespace Go.KL.YtkojphmejddhiaaDoor.J
open Go Go.KL Go.RowKit Go.Proofs Go.KL.YtkojphmejddhiaaDoor

theorem c27 : cFun E0.P 27 = some ⟨26, [(4, none)], .seq (.rg [⟨some 4, none, .mv (.k (.int .i64 0))⟩]) (.seq (.seq (.rg [⟨some 9, none, .mv (.t 0)⟩, ⟨some 10, none, .call 34 [.t 9]⟩]) (.cond (.t 10) (.seq (.rg [⟨some 4, none, .mv (.k (.int .i64 1))⟩]) .ret) .skip)) (.seq (.rg [⟨some 11, none, .mkmap (KT.agg [KLf.i .i64, KLf.i .i64, KLf.i .u64])⟩, ⟨some 5, none, .mv (.t 11)⟩]) (.seq (.seq (.rg [⟨some 12, none, .mv (.t 1)⟩, ⟨some 13, none, .len 1 (.t 12)⟩, ⟨some 14, none, .mv (.k (.int .i64 0))⟩]) (.block 0 (.loop (.seq (.rg [⟨some 15, none, .bin .lss .leaf (.t 14) (.t 13)⟩]) (.seq (.cond (.t 15) .skip (.exit 0)) (.seq (.block 1 (.seq (.rg [⟨some 16, none, .ia 4 (.t 12) (.t 14)⟩, ⟨some 17, none, .ld 4 true (.t 16)⟩, ⟨some 7, none, .alloc [.int .i64 0, .int .u8 0, .int .u64 0, .nilsl] 32⟩, ⟨none, none, .st 4 (.t 7) (.t 17)⟩]) (.seq (.rg [⟨some 18, none, .mv (.t 0)⟩, ⟨some 19, none, .mv (.t 5)⟩, ⟨some 20, none, .ld 4 true (.t 7)⟩, ⟨some 21, none, .call 36 [.t 18, .t 19, .t 20]⟩, ⟨some 8, none, .mv (.t 21)⟩]) (.seq (.rg [⟨some 22, none, .mv (.t 8)⟩, ⟨some 23, none, .bin .neq .leaf (.t 22) (.k (.int .i64 0))⟩]) (.cond (.t 23) (.seq (.rg [⟨some 24, none, .mv (.t 8)⟩, ⟨some 4, none, .mv (.t 24)⟩]) .ret) .skip))))) (.rg [⟨some 25, none, .bin .add .leaf (.t 14) (.k (.int .i64 1))⟩, ⟨some 14, none, .mv (.t 25)⟩]))))))) (.seq (.rg [⟨some 4, none, .mv (.k (.int .i64 0))⟩]) .ret))))⟩ := by kernel_rfl

theorem iaD_en {l : List Ent} {i : Nat} {n : Int} (h : n = i) {e : Ent} (he : l[i]? = some e) : iaD 4 (.sl (entR l)) (.int .i64 n) = some (.pe (entC e) 0) := by
  subst h
  exact iaD_map (f := entC) (by omega) (by rw [Int.toNat_natCast]; exact he) rfl
open Classical in
/-- the error of an entry, behind those that were reckoned into g -/
noncomputable def stepE (ql : AcL) (f : Slot → Option Int) (closed : Int) (g : Slot → Option Int) (e : Ent) : Int := if onN ql e ≠ 0 ∨ ofI e.day ≤ closed then (if onN ql e ≠ 0 then onN ql e else 210) else if ∀ s ∈ tts (adL e), okS (adL e) f g s then 0 else 211
noncomputable def mayN (ql : AcL) (f : Slot → Option Int) (closed : Int) : (Slot → Option Int) → List Ent → Int
  | _, [] => 0
  | g, e :: r => if stepE ql f closed g e ≠ 0 then stepE ql f closed g e else mayN ql f closed (gV (adL e) f g (tts (adL e))) r
structure MyS where
  i : Nat
  g : Slot → Option Int
  o : O
section
variable {X : List O} {tk : Tks} {lo bid cid kid mid : Nat} {ql : AcL} {f : Slot → Option Int} {E : List Ent} {closed : Int}
set_option maxHeartbeats 2000000 in
theorem may_b (h : BkR X lo bid cid kid mid ql f E closed) (l : List Ent) (hl : l.length < 1000000) (hR : ∀ e ∈ l, e.R) : ACalls E0 27 [.po bid 0, .sl (entR l)] X tk (fun r S' tk' => r = .int .i64 (mayN ql f closed noneF l) ∧ S' = X ∧ tk' = tk) := by
  obtain ⟨vid, ety, hb, -⟩ := h.b
  obtain ⟨oc, hk, hch⟩ := h.k
  obtain ⟨om, hm, hf⟩ := h.m
  have hml := (List.getElem?_eq_some_iff.1 hm).1
  have hbl := (List.getElem?_eq_some_iff.1 hb).1
  have hlen : (entR l).length = l.length := by simp [entR]
  have hscl : ∀ n m, scLL n m (entR l) = true := fun n m => by
    have : ∀ l : List Ent, scLL n m (entR l) = true := fun l => by
      induction l with
      | nil => rfl
      | cons a r ih =>
        unfold entR at ih ⊢
        simp only [List.map_cons, scLL, ih, Bool.and_true]
        simp [entC, scL, D.sc, scLL_lns]
    exact this l
  refine ACalls.fgo c27 rfl fun hS => ?_
  repeat' first | with_reducible refine fzD_ite (fun q => ?_) (fun q => ?_) | ((try conv => whnf); first | refine bs_d (fun q => ?_) (fun q => ?_) | refine bs_n ?_ | refine bs_i (fun q => ?_) (fun q => ?_) | refine ckA rfl rfl (none_b (at_old hb)) ?_ | refine eqk rfl ?_ | refine ffin _ rfl rfl hS (Sub.refl _) rfl ⟨?_, rfl, rfl⟩)
  conv => whnf
  refine floop (α := MyS) rfl rfl hS (fun s => s.i ≤ l.length ∧ Nw s.g s.o ∧ (∀ x, I64 ((s.g x).getD 0)) ∧ mayN ql f closed noneF l = mayN ql f closed s.g (l.drop s.i)) (fun s => l.length - s.i) (fun s => [(14, .d (.int .i64 s.i)), (13, .d (.int .i64 l.length)), (12, .d (.sl (entR l))), (0, .d (.po bid 0)), (5, .d (.map (X.length + 0)))]) (fun s => [s.o]) (fun _ => []) ⟨0, noneF, .map kSl (MG.entKv sD []) 0⟩ ⟨Nat.zero_le _, nw_empty, fun x => by unfold noneF I64; simp, rfl⟩ (fstep_sub ⟨Sub.refl _, Sub.int (by rw [hlen]), Sub.refl _, Sub.refl _, Sub.refl _, trivial⟩) ?_
  rintro ⟨i, g, o⟩ ⟨hi, hg, hgI, hr⟩
  simp only at hi hg hgI hr ⊢
  by_cases hlt : i < l.length
  rotate_left
  · rw [List.drop_of_length_le (by omega), mayN] at hr
    rw [hr]
    repeat' first | with_reducible refine fzD_ite (fun q => ?_) (fun q => ?_) | ((try conv => whnf); first | refine bs_f (decide_eq_false (show ¬ (i : Int) < l.length by omega)) ?_ | refine bs_d (fun q => ?_) (fun q => ?_) | refine bs_n ?_ | refine bs_i (fun q => ?_) (fun q => ?_) | refine eqk rfl ?_ | refine ffin _ rfl rfl hS (Sub.refl _) rfl ⟨?_, rfl, rfl⟩)
    all_goals rfl
  · have hat := List.getElem?_eq_getElem hlt
    have hRe := hR _ (List.getElem_mem hlt)
    rw [List.drop_eq_getElem_cons hlt, mayN] at hr
    generalize l[i] = e at hat hRe hr
    have hix := iaD_en (l := l) (i := i) (n := (i : Int)) rfl hat
    by_cases hbad : onN ql e ≠ 0 ∨ ofI e.day ≤ closed
    · have hst : stepE ql f closed g e = (if onN ql e ≠ 0 then onN ql e else 210) := if_pos hbad
      have hne : (if onN ql e ≠ 0 then onN ql e else 210) ≠ 0 := by
        split
        · assumption
        · decide
      rw [hst, if_pos hne] at hr
      have ha : ∀ (J : List O) (tk : Tks) (nid : Nat), ACalls E0 36 [.po bid 0, .map nid, e.d] (X ++ J) tk (fun r S' tk' => r = .int .i64 (if onN ql e ≠ 0 then onN ql e else 210) ∧ S' = X ++ J ∧ tk' = tk) := fun J tk nid => adds_err e hRe (at_old hb) (at_old h.c) (at_old hk) hch h.ok h.lq hbad
      rw [hr]
      obtain ⟨n, hn⟩ : ∃ n, n = (if onN ql e ≠ 0 then onN ql e else 210) := ⟨_, rfl⟩
      simp only [← hn] at hne ha ⊢
      repeat' first | with_reducible refine fzD_ite (fun q => ?_) (fun q => ?_) | ((try conv => whnf); first | refine bs_t (decide_eq_true (show (i : Int) < l.length by omega)) ?_ | refine bs_f (decide_eq_false hne) ?_ | refine bs_d (fun q => ?_) (fun q => ?_) | refine bs_n ?_ | refine bs_i (fun q => ?_) (fun q => ?_) | refine pK_i hix ?_ | refine ckA rfl rfl (ha _ _ _) ?_ | refine eqk rfl ?_ | refine ffin _ rfl rfl hS (Sub.refl _) rfl ⟨?_, rfl, rfl⟩)
      all_goals rfl
    · have h1 : onN ql e = 0 := Classical.byContradiction fun h => hbad (.inl h)
      have h2 : ¬ ofI e.day ≤ closed := fun h => hbad (.inr h)
      have hchk : e.chk = 0 := Classical.byContradiction fun h => by rw [onN, if_neg h] at h1; exact h h1
      have ha : ∀ (J : List O) (tk : Tks), J[0]? = some o → ACalls E0 36 [.po bid 0, .map (X.length + 0), e.d] (X ++ J) tk (fun r S' tk' => ∃ o', (((∀ s ∈ tts (adL e), okS (adL e) f g s) ∧ r = .int .i64 0 ∧ Nw (gV (adL e) f g (tts (adL e))) o') ∨ ((∃ s ∈ tts (adL e), ¬ okS (adL e) f g s) ∧ r = .int .i64 211 ∧ ∃ g', Nw g' o')) ∧ S' = (X ++ J).set (X.length + 0) o' ∧ tk' = tk) := fun J tk hJ => adds e hRe hchk h1 h2 (at_old hb) (at_old h.c) (at_old hk) hch h.ok h.lq (at_old hm) hf (at_own rfl hJ) hg (by omega) h.I hgI
      by_cases hokA : ∀ s ∈ tts (adL e), okS (adL e) f g s
      · have hst : stepE ql f closed g e = 0 := by rw [stepE, if_neg hbad, if_pos hokA]
        rw [hst, if_neg (by simp)] at hr
        have hI2 : ∀ x, I64 ((gV (adL e) f g (tts (adL e)) x).getD 0) := fun x => by
          unfold gV
          by_cases hx : x ∈ tts (adL e)
          · rw [if_pos hx]
            have := hokA x hx
            unfold okS at this
            unfold I64
            simp only [Option.getD_some]; omega
          · rw [if_neg hx]; exact hgI x
        have ha2 : ∀ (J : List O) (tk : Tks), J[0]? = some o → ACalls E0 36 [.po bid 0, .map (X.length + 0), e.d] (X ++ J) tk (fun r S' tk' => ∃ o', (r = .int .i64 0 ∧ Nw (gV (adL e) f g (tts (adL e))) o') ∧ S' = (X ++ J).set (X.length + 0) o' ∧ tk' = tk) := fun J tk hJ => (ha J tk hJ).mono (by
          rintro r S' tk' ⟨o', h5, h6, h7⟩
          rcases h5 with ⟨-, h8, h9⟩ | ⟨⟨s, hs, hno⟩, -⟩
          · exact ⟨o', ⟨h8, h9⟩, h6, h7⟩
          · exact absurd (hokA s hs) hno)
        repeat' first | with_reducible refine fzD_ite (fun q => ?_) (fun q => ?_) | ((try conv => whnf); first | refine bs_t (decide_eq_true (show (i : Int) < l.length by omega)) ?_ | refine bs_d (fun q => ?_) (fun q => ?_) | refine bs_n ?_ | refine bs_i (fun q => ?_) (fun q => ?_) | refine pK_i hix ?_ | (refine ckJE (k := 0) (G := fun r o' => r = .int .i64 0 ∧ Nw (gV (adL e) f g (tts (adL e))) o') rfl rfl (ha2 _ _ rfl) (SubL.refl _) ?_; rintro r o2 ⟨rfl, hn2⟩) | refine eqk rfl ?_ | refine ffin _ rfl rfl hS (Sub.refl _) rfl ⟨?_, rfl, rfl⟩)
        conv => whnf
        exact fnext (α := MyS) ⟨i + 1, _, o2⟩ ⟨by simp only; omega, hn2, hI2, hr⟩ (by simp only; omega) (fstep_drop (J' := [_]) (Jx := [_]) (TK' := []) (TKx := []) rfl rfl ⟨Sub.int (by first | rfl | omega | (refine Int.sub_eq_zero.mp ?_; simp (disch := ((try unfold I64); omega)) only [wi64_id, td]; omega)), Sub.refl _, Sub.refl _, Sub.refl _, Sub.refl _, trivial⟩ (by simp [frD, FD.to, frSc, D.sc, hscl]; omega) (by simp [oScL, sc_nw hn2]))
      · have hst : stepE ql f closed g e = 211 := by rw [stepE, if_neg hbad, if_neg hokA]
        rw [hst, if_pos (by simp)] at hr
        rw [hr]
        have ha2 : ∀ (J : List O) (tk : Tks), J[0]? = some o → ACalls E0 36 [.po bid 0, .map (X.length + 0), e.d] (X ++ J) tk (fun r S' tk' => ∃ o', r = .int .i64 211 ∧ S' = (X ++ J).set (X.length + 0) o' ∧ tk' = tk) := fun J tk hJ => (ha J tk hJ).mono (by
          rintro r S' tk' ⟨o', h5, h6, h7⟩
          rcases h5 with ⟨h8, -⟩ | ⟨-, h8, -⟩
          · exact absurd h8 hokA
          · exact ⟨o', h8, h6, h7⟩)
        repeat' first | with_reducible refine fzD_ite (fun q => ?_) (fun q => ?_) | ((try conv => whnf); first | refine bs_t (decide_eq_true (show (i : Int) < l.length by omega)) ?_ | refine bs_d (fun q => ?_) (fun q => ?_) | refine bs_n ?_ | refine bs_i (fun q => ?_) (fun q => ?_) | refine pK_i hix ?_ | (refine ckJE (k := 0) (G := fun r o' => r = .int .i64 211) rfl rfl (ha2 _ _ rfl) (SubL.refl _) ?_; rintro r o2 rfl) | refine eqk rfl ?_ | refine ffin _ rfl rfl hS (Sub.refl _) rfl ⟨?_, rfl, rfl⟩)
        all_goals rfl
end
end Go.KL.YtkojphmejddhiaaDoor.J

/- May, and Post one behind the other (plain) -/
set_option linter.unusedVariables false
set_option linter.unusedSimpArgs false
namespace Go.KL.YtkojphmejddhiaaDoor.J
open Go Go.KL Go.RowKit Go.Proofs Go.KL.YtkojphmejddhiaaDoor

variable {ql : AcL} {f g : Slot → Option Int} {closed : Int}
theorem was_or (f g : Slot → Option Int) (s : Slot) : wasV f g s = wasV (orF f g) noneF s := by
  unfold wasV orF noneF
  cases g s <;> rfl
theorem new_or (L : List Ln) (f g : Slot → Option Int) (s : Slot) : newV L f g s = newV L (orF f g) noneF s := by rw [newV, newV, was_or]
theorem ok_or (L : List Ln) (f g : Slot → Option Int) (s : Slot) : okS L f g s ↔ okS L (orF f g) noneF s := by unfold okS; rw [new_or]
theorem post_or (e : Ent) (f g : Slot → Option Int) : orF f (gV (adL e) f g (tts (adL e))) = postF (orF f g) e := by
  funext s
  unfold postF
  rw [orF, orF]
  unfold gV
  by_cases h : s ∈ tts (adL e)
  · rw [if_pos h, if_pos h, new_or]; rfl
  · rw [if_neg h, if_neg h]; rfl
theorem step_or (e : Ent) : stepE ql f closed g e = postN ql (orF f g) closed e := by
  unfold stepE postN
  by_cases hb : onN ql e ≠ 0 ∨ ofI e.day ≤ closed
  · rw [if_pos hb, if_pos hb]
  · rw [if_neg hb, if_neg hb]
    by_cases h : ∀ s ∈ tts (adL e), okS (adL e) f g s
    · rw [if_pos h, if_pos fun s hs => (ok_or _ _ _ _).1 (h s hs)]
    · rw [if_neg h, if_neg fun h2 => h fun s hs => (ok_or _ _ _ _).2 (h2 s hs)]
/-- the first error of entries that are posted one behind the other -/
noncomputable def postsN (ql : AcL) (closed : Int) : (Slot → Option Int) → List Ent → Int
  | _, [] => 0
  | f, e :: r => if postN ql f closed e ≠ 0 then postN ql f closed e else postsN ql closed (postF f e) r
theorem may_posts : ∀ (l : List Ent) (g : Slot → Option Int), mayN ql f closed g l = postsN ql closed (orF f g) l
  | [], g => rfl
  | e :: r, g => by
    rw [mayN, postsN, step_or, may_posts r, post_or]
theorem or_none (f : Slot → Option Int) : orF f noneF = f := rfl
theorem may_is (l : List Ent) : mayN ql f closed noneF l = postsN ql closed f l := may_posts l noneF
end Go.KL.YtkojphmejddhiaaDoor.J

/- Post, whatever comes of it: one contract -/
set_option linter.unusedVariables false
set_option linter.unusedSimpArgs false
set_option linter.unusedSectionVars false
namespace Go.KL.YtkojphmejddhiaaDoor.J
open Go Go.KL Go.RowKit Go.Proofs Go.KL.YtkojphmejddhiaaDoor

/-- the sums, and the entries, behind an entry that may have been refused -/
noncomputable def nextF (ql : AcL) (f : Slot → Option Int) (closed : Int) (e : Ent) : Slot → Option Int := if postN ql f closed e = 0 then postF f e else f
noncomputable def nextE (ql : AcL) (f : Slot → Option Int) (closed : Int) (E : List Ent) (e : Ent) : List Ent := if postN ql f closed e = 0 then E ++ [e] else E
noncomputable def numP (ql : AcL) (f : Slot → Option Int) (closed : Int) (E : List Ent) (e : Ent) : Int := if postN ql f closed e = 0 then ((E.length + 1 : Nat) : Int) else 0
theorem Keeps.refl (lo bid mid : Nat) (X : List O) : Keeps lo bid mid X X := ⟨Nat.le_refl _, fun _ _ => rfl, fun _ _ h _ _ _ => h⟩
section
variable {X : List O} {tk : Tks} {lo bid cid kid mid : Nat} {ql : AcL} {f : Slot → Option Int} {E : List Ent} {closed : Int}
theorem postA (h : BkR X lo bid cid kid mid ql f E closed) (e : Ent) (hR : e.R) (hE : E.length < 1000000) :
    ACalls E0 18 [.po bid 0, e.d] X tk (fun r X' tk' => (r = .tup [.int .u64 (numP ql f closed E e), .int .i64 (postN ql f closed e)] ∧ BkR X' lo bid cid kid mid ql (nextF ql f closed e) (nextE ql f closed E e) closed ∧ Keeps lo bid mid X X') ∧ ((∀ id, id < lo → X'[id]? = X[id]?) ∧ lo ≤ X'.length) ∧ tk' = tk) := by
  obtain ⟨vid, ety, hb, -⟩ := h.b
  have hbl := (List.getElem?_eq_some_iff.1 hb).1
  have hlo := h.lo.1
  by_cases hbad : onN ql e ≠ 0 ∨ ofI e.day ≤ closed
  · have hp : postN ql f closed e = (if onN ql e ≠ 0 then onN ql e else 210) := if_pos hbad
    have hne : (if onN ql e ≠ 0 then onN ql e else 210) ≠ 0 := by
      split
      · assumption
      · decide
    refine (post_err h e hR hbad).mono ?_
    rintro r X' tk' ⟨rfl, rfl, rfl⟩
    refine ⟨⟨?_, ?_, Keeps.refl ..⟩, ⟨fun _ _ => rfl, by omega⟩, rfl⟩
    · rw [numP, hp, if_neg hne]
    · rw [nextF, nextE, hp, if_neg hne, if_neg hne]; exact h
  · have h1 : onN ql e = 0 := Classical.byContradiction fun h => hbad (.inl h)
    have h2 : ¬ ofI e.day ≤ closed := fun h => hbad (.inr h)
    by_cases h3 : ∀ s ∈ tts (adL e), okS (adL e) f noneF s
    · have hp : postN ql f closed e = 0 := by rw [postN, if_neg hbad, if_pos h3]
      refine (postK h e hR h1 h2 h3 hE).mono ?_
      rintro r X' tk' ⟨⟨rfl, h5, h6⟩, h7, h8⟩
      refine ⟨⟨?_, ?_, h6⟩, h7, h8⟩
      · rw [numP, hp, if_pos rfl]
      · rw [nextF, nextE, if_pos hp, if_pos hp]; exact h5
    · have hp : postN ql f closed e = 211 := by rw [postN, if_neg hbad, if_neg h3]
      refine (post_over h e hR h1 h2 h3).mono ?_
      rintro r X' tk' ⟨rfl, rfl, rfl⟩
      refine ⟨⟨?_, ?_, Keeps.refl ..⟩, ⟨fun _ _ => rfl, by omega⟩, rfl⟩
      · rw [numP, hp, if_neg (by omega)]
      · rw [nextF, nextE, hp, if_neg (by omega), if_neg (by omega)]; exact h
end
end Go.KL.YtkojphmejddhiaaDoor.J

/- plain facts of sums behind entries -/
set_option linter.unusedVariables false
set_option linter.unusedSimpArgs false
namespace Go.KL.YtkojphmejddhiaaDoor.J
open Go Go.KL Go.RowKit Go.Proofs Go.KL.YtkojphmejddhiaaDoor

theorem nextE_len (ql : AcL) (f : Slot → Option Int) (cl : Int) (E : List Ent) (e : Ent) : (nextE ql f cl E e).length ≤ E.length + 1 := by
  unfold nextE; split <;> simp
theorem mem_ad {e : Ent} {s : Slot} : s ∈ tts (adL e) ↔ ∃ x ∈ e.L, ∃ k, k < 4 ∧ s = slotK e.day x k := by
  rw [mem_tts, List.mem_map]
  constructor
  · rintro ⟨y, hy, rfl⟩
    obtain ⟨x, hx, hy⟩ := List.mem_flatMap.1 hy
    simp only [List.mem_cons, List.not_mem_nil, or_false] at hy
    rcases hy with rfl | rfl | rfl | rfl
    · exact ⟨x, hx, 0, by omega, rfl⟩
    · exact ⟨x, hx, 1, by omega, rfl⟩
    · exact ⟨x, hx, 2, by omega, rfl⟩
    · exact ⟨x, hx, 3, by omega, rfl⟩
  · rintro ⟨x, hx, k, hk, rfl⟩
    refine ⟨sLn (slotK e.day x k) x.amt, List.mem_flatMap.2 ⟨x, hx, ?_⟩, rfl⟩
    have : k = 0 ∨ k = 1 ∨ k = 2 ∨ k = 3 := by omega
    rcases this with rfl | rfl | rfl | rfl <;> simp
theorem post_val (f : Slot → Option Int) (e : Ent) (s : Slot) : (postF f e s).getD 0 = (amtsT (adL e) s).sum + (f s).getD 0 := by
  unfold postF orF gV
  by_cases h : s ∈ tts (adL e)
  · rw [if_pos h]; simp [newV, wasV, noneF]
  · rw [if_neg h, amtsT_none (fun hm => h ((mem_tts _ _).2 hm))]; simp [noneF]
theorem post_same {f : Slot → Option Int} {e : Ent} {s : Slot} (h : s ∉ tts (adL e)) : postF f e s = f s := by
  unfold postF orF gV
  rw [if_neg h]; rfl
theorem slot_mo {day : Int} {x : Ln} {k : Nat} {a i : Int} (hk : k < 4) (h : (a, 3, i) = slotK day x k) : i = ofI day := by
  have : k = 0 ∨ k = 1 ∨ k = 2 ∨ k = 3 := by omega
  rcases this with rfl | rfl | rfl | rfl <;> simp [slotK] at h
  exact h.2
/-- the sums of a month that is closed stay -/
theorem in_stay (f : Slot → Option Int) (e : Ent) {closed : Int} (h2 : ¬ ofI e.day ≤ closed) (a : Int) {month : Int} (hm : month ≤ closed) : inV (postF f e) a month = inV f a month := by
  unfold inV
  split
  · rfl
  · rw [post_same]
    intro h
    obtain ⟨x, _, k, hk, h⟩ := mem_ad.1 h
    have := slot_mo hk h
    omega
theorem neg_slot {d d' : Int} {x : Ln} : ∀ {k : Nat}, k < 3 → slotK d' (neg x) k = slotK d x k
  | 0, _ => rfl
  | 1, _ => rfl
  | 2, _ => rfl
def flat4 (day : Int) (L : List Ln) : List Ln := L.flatMap fun x => [sLn (slotK day x 0) x.amt, sLn (slotK day x 1) x.amt, sLn (slotK day x 2) x.amt, sLn (slotK day x 3) x.amt]
theorem amts_sLn (t s : Slot) (n : Int) (l : List Ln) : (amtsT (sLn t n :: l) s).sum = (if t = s then n else 0) + (amtsT l s).sum := by
  unfold amtsT
  rw [List.filter_cons, sLn_t]
  by_cases h : t = s <;> simp [h, sLn]
theorem amts_nil (s : Slot) : (amtsT [] s).sum = 0 := rfl
theorem flat4_neg (d d' : Int) {s : Slot} (hs : s.2.1 ≠ 3) : ∀ L : List Ln, (amtsT (flat4 d' (L.map neg)) s).sum = -(amtsT (flat4 d L) s).sum
  | [] => rfl
  | x :: L => by
    have ih := flat4_neg d d' hs L
    have h3 : ∀ day y, slotK day y 3 ≠ s := fun day y h => hs (by rw [← h]; rfl)
    unfold flat4 at ih ⊢
    rw [List.map_cons, List.flatMap_cons, List.flatMap_cons, amtsT_app, amtsT_app, List.sum_append, List.sum_append, ih]
    have e : (amtsT [sLn (slotK d' (neg x) 0) (neg x).amt, sLn (slotK d' (neg x) 1) (neg x).amt, sLn (slotK d' (neg x) 2) (neg x).amt, sLn (slotK d' (neg x) 3) (neg x).amt] s).sum = -(amtsT [sLn (slotK d x 0) x.amt, sLn (slotK d x 1) x.amt, sLn (slotK d x 2) x.amt, sLn (slotK d x 3) x.amt] s).sum := by
      rw [neg_slot (d := d) (k := 0) (by omega), neg_slot (d := d) (k := 1) (by omega), neg_slot (d := d) (k := 2) (by omega)]
      have k3 := h3 d' (neg x)
      have k3' := h3 d x
      simp only [amts_sLn, amts_nil, if_neg k3, if_neg k3']
      by_cases h0 : slotK d x 0 = s <;> by_cases h1 : slotK d x 1 = s <;> by_cases h2 : slotK d x 2 = s <;> simp only [h0, h1, h2, if_true, if_false, neg] <;> omega
    rw [e]; omega
/-- an entry and its reversal leave all sums but those of months -/
theorem back_val (f : Slot → Option Int) (e r : Ent) {day : Int} (hr : r = ⟨day, e.kind, e.src, e.L.map neg⟩) {s : Slot} (hs : s.2.1 ≠ 3) : (postF (postF f e) r s).getD 0 = (f s).getD 0 := by
  subst hr
  rw [post_val, post_val]
  have := flat4_neg e.day day hs e.L
  show (amtsT (flat4 day (e.L.map neg)) s).sum + ((amtsT (flat4 e.day e.L) s).sum + _) = _
  omega
end Go.KL.YtkojphmejddhiaaDoor.J

/- BooksMay -/
set_option linter.unusedVariables false
set_option linter.unusedSimpArgs false
set_option linter.unusedSectionVars false
set_option maxRecDepth 4000
namespace Go.KL.YtkojphmejddhiaaDoor.J
open Go Go.KL Go.RowKit Go.Proofs Go.KL.YtkojphmejddhiaaDoor

theorem c6 : cFun E0.P 6 = some ⟨111, [(4, none)], .seq (.rg [⟨some 4, none, .mv (.k (.bool false))⟩]) (.seq (.seq (.rg [⟨some 14, none, .mv (.t 0)⟩, ⟨some 15, none, .call 8 [.t 14]⟩, ⟨some 16, none, .mv (.t 15)⟩, ⟨some 17, some (16, false), .mv (.t 1)⟩, ⟨some 18, some (16, false), .len 1 (.t 17)⟩, ⟨some 19, some (16, false), .bin .gtr .leaf (.t 18) (.k (.int .i64 8))⟩, ⟨some 20, none, .pick (.t 16) (.k (.bool true)) (.t 19)⟩]) (.cond (.t 20) (.seq (.rg [⟨some 21, none, .call 9 []⟩, ⟨some 4, none, .mv (.t 21)⟩]) .ret) .skip)) (.seq (.rg [⟨some 22, none, .call 10 []⟩, ⟨some 23, none, .call 11 [.t 22]⟩, ⟨some 5, none, .mv (.t 23)⟩]) (.seq (.seq (.rg [⟨some 6, none, .mv (.k (.int .i64 0))⟩]) (.block 0 (.loop (.seq (.seq (.rg [⟨some 24, none, .mv (.t 6)⟩, ⟨some 25, none, .mv (.t 0)⟩, ⟨some 26, none, .len 1 (.t 25)⟩, ⟨some 27, none, .bin .lss .leaf (.t 24) (.t 26)⟩]) (.cond (.t 27) .skip (.exit 0))) (.seq (.block 1 (.seq (.rg [⟨some 30, none, .mv (.t 0)⟩, ⟨some 31, none, .mv (.t 6)⟩, ⟨some 32, none, .ia 11 (.t 30) (.t 31)⟩, ⟨some 33, none, .fa 0 (.t 32)⟩, ⟨some 34, none, .ld 1 false (.t 33)⟩, ⟨some 35, none, .bin .rem .leaf (.t 34) (.k (.int .u8 4))⟩, ⟨some 36, none, .bin .eql .leaf (.t 35) (.k (.int .u8 1))⟩]) (.cond (.t 36) (.rg [⟨some 37, none, .mv (.t 5)⟩, ⟨some 38, none, .mv (.t 0)⟩, ⟨some 39, none, .mv (.t 6)⟩, ⟨some 40, none, .ia 11 (.t 38) (.t 39)⟩, ⟨some 41, none, .fa 5 (.t 40)⟩, ⟨some 42, none, .ld 1 false (.t 41)⟩, ⟨some 43, none, .call 16 [.t 37, .t 42]⟩]) (.rg [⟨some 44, none, .mv (.t 5)⟩, ⟨some 45, none, .mv (.t 0)⟩, ⟨some 46, none, .mv (.t 6)⟩, ⟨some 47, none, .ia 11 (.t 45) (.t 46)⟩, ⟨some 48, none, .fa 1 (.t 47)⟩, ⟨some 49, none, .ld 4 true (.t 48)⟩, ⟨some 50, none, .call 18 [.t 44, .t 49]⟩])))) (.rg [⟨some 28, none, .mv (.t 6)⟩, ⟨some 29, none, .bin .add .leaf (.t 28) (.k (.int .i64 1))⟩, ⟨some 6, none, .mv (.t 29)⟩])))))) (.seq (.seq (.rg [⟨some 7, none, .mv (.k (.int .i64 0))⟩]) (.block 2 (.loop (.seq (.seq (.rg [⟨some 51, none, .mv (.t 7)⟩, ⟨some 52, none, .mv (.t 1)⟩, ⟨some 53, none, .len 1 (.t 52)⟩, ⟨some 54, none, .bin .lss .leaf (.t 51) (.t 53)⟩]) (.cond (.t 54) .skip (.exit 2))) (.seq (.block 3 (.seq (.rg [⟨some 57, none, .mv (.t 1)⟩, ⟨some 58, none, .mv (.t 7)⟩, ⟨some 59, none, .ia 4 (.t 57) (.t 58)⟩, ⟨some 60, none, .fa 3 (.t 59)⟩, ⟨some 61, none, .ld 1 false (.t 60)⟩, ⟨some 62, none, .len 1 (.t 61)⟩, ⟨some 63, none, .bin .gtr .leaf (.t 62) (.k (.int .i64 20))⟩]) (.cond (.t 63) (.seq (.rg [⟨some 64, none, .call 9 []⟩, ⟨some 4, none, .mv (.t 64)⟩]) .ret) .skip))) (.rg [⟨some 55, none, .mv (.t 7)⟩, ⟨some 56, none, .bin .add .leaf (.t 55) (.k (.int .i64 1))⟩, ⟨some 7, none, .mv (.t 56)⟩])))))) (.seq (.rg [⟨some 65, none, .mv (.t 5)⟩, ⟨some 66, none, .call 13 [.t 65]⟩, ⟨some 67, none, .mv (.t 5)⟩, ⟨some 68, none, .call 12 [.t 67]⟩, ⟨some 8, none, .mv (.t 66)⟩, ⟨some 9, none, .mv (.t 68)⟩]) (.seq (.rg [⟨some 69, none, .mv (.t 5)⟩, ⟨some 70, none, .mv (.t 1)⟩, ⟨some 71, none, .call 27 [.t 69, .t 70]⟩, ⟨some 10, none, .mv (.t 71)⟩]) (.seq (.seq (.rg [⟨some 72, none, .mv (.t 5)⟩, ⟨some 73, none, .call 13 [.t 72]⟩, ⟨some 74, none, .mv (.t 8)⟩, ⟨some 75, none, .bin .neq .leaf (.t 73) (.t 74)⟩, ⟨some 76, none, .mv (.t 75)⟩, ⟨some 77, some (76, false), .mv (.t 5)⟩, ⟨some 78, some (76, false), .call 12 [.t 77]⟩, ⟨some 79, some (76, false), .mv (.t 9)⟩, ⟨some 80, some (76, false), .call 17 [.t 78, .t 79]⟩, ⟨some 81, some (76, false), .un .not (.t 80)⟩, ⟨some 82, none, .pick (.t 76) (.k (.bool true)) (.t 81)⟩]) (.cond (.t 82) (.seq (.rg [⟨some 4, none, .mv (.k (.bool false))⟩]) .ret) .skip)) (.seq (.seq (.rg [⟨some 11, none, .mv (.k (.int .i64 0))⟩]) (.block 4 (.loop (.seq (.seq (.rg [⟨some 83, none, .mv (.t 11)⟩, ⟨some 84, none, .mv (.t 1)⟩, ⟨some 85, none, .len 1 (.t 84)⟩, ⟨some 86, none, .bin .lss .leaf (.t 83) (.t 85)⟩]) (.cond (.t 86) .skip (.exit 4))) (.seq (.block 5 (.seq (.rg [⟨some 90, none, .mv (.t 5)⟩, ⟨some 91, none, .mv (.t 1)⟩, ⟨some 92, none, .mv (.t 11)⟩, ⟨some 93, none, .ia 4 (.t 91) (.t 92)⟩, ⟨some 94, none, .ld 4 true (.t 93)⟩, ⟨some 95, none, .call 18 [.t 90, .t 94]⟩, ⟨some 89, none, .mv (.t 95)⟩, ⟨some 96, none, .ext 0 (.t 89)⟩, ⟨some 97, none, .ext 1 (.t 89)⟩, ⟨some 12, none, .mv (.t 96)⟩, ⟨some 13, none, .mv (.t 97)⟩]) (.seq (.rg [⟨some 98, none, .mv (.t 13)⟩, ⟨some 99, none, .bin .neq .leaf (.t 98) (.k (.int .i64 0))⟩]) (.cond (.t 99) (.seq (.rg [⟨some 100, none, .mv (.t 10)⟩, ⟨some 101, none, .mv (.t 13)⟩, ⟨some 102, none, .bin .eql .leaf (.t 100) (.t 101)⟩, ⟨some 103, none, .mv (.t 102)⟩, ⟨some 104, some (103, true), .call 9 []⟩, ⟨some 105, none, .pick (.t 103) (.t 104) (.k (.bool false))⟩, ⟨some 4, none, .mv (.t 105)⟩]) .ret) .skip)))) (.rg [⟨some 87, none, .mv (.t 11)⟩, ⟨some 88, none, .bin .add .leaf (.t 87) (.k (.int .i64 1))⟩, ⟨some 11, none, .mv (.t 88)⟩])))))) (.seq (.rg [⟨some 106, none, .mv (.t 10)⟩, ⟨some 107, none, .bin .eql .leaf (.t 106) (.k (.int .i64 0))⟩, ⟨some 108, none, .mv (.t 107)⟩, ⟨some 109, some (108, true), .call 9 []⟩, ⟨some 110, none, .pick (.t 108) (.t 109) (.k (.bool false))⟩, ⟨some 4, none, .mv (.t 110)⟩]) .ret)))))))))⟩ := by kernel_rfl

structure BmS where
  i : Nat
  J : List O
  f : Slot → Option Int
  E : List Ent
  cl : Int
theorem triS_len (ql : AcL) (f : Slot → Option Int) (h : ql.length < 1000000) : (triL ql f).length < 4611686018427387904 := by have := triL_len ql f; omega
set_option maxHeartbeats 4000000 in
theorem booksMay (l : List At) (hR : ∀ x ∈ l, x.R) (hlm : l.length ≤ maxLen) (more : List Ent) (hRm : ∀ e ∈ more, e.R) : Pure 6 [.sl (ats l), .sl (entR more)] (.bool true) := by
  intro S tk
  have hla := ats_len l
  have hlb : (entR more).length = more.length := by simp [entR]
  have hgr := great l hlm
  by_cases hbig : greatB l = true ∨ (more.length : Int) > 8
  · cases hg : greatB l with
    | true =>
      rw [hg] at hgr
      refine ACalls.fgo c6 rfl fun hS => ?_
      repeat' first | with_reducible refine fzD_ite (fun q => ?_) (fun q => ?_) | ((try conv => whnf); first | refine bs_d (fun q => ?_) (fun q => ?_) | refine bs_n ?_ | refine bs_i (fun q => ?_) (fun q => ?_) | refine ckz (hgr) ?_ | refine cq (hgr) ?_ | refine ckz (head_b) ?_ | refine cq (head_b) ?_ | refine eqk rfl ?_ | refine ffin _ rfl rfl hS (Sub.refl _) rfl ⟨?_, rfl, rfl⟩)
      all_goals rfl
    | false =>
      rw [hg] at hgr hbig
      have h8 : (more.length : Int) > 8 := by simpa using hbig
      refine ACalls.fgo c6 rfl fun hS => ?_
      repeat' first | with_reducible refine fzD_ite (fun q => ?_) (fun q => ?_) | ((try conv => whnf); first | refine bs_t (decide_eq_true (show ((entR more).length : Int) > 8 by omega)) ?_ | refine bs_d (fun q => ?_) (fun q => ?_) | refine bs_n ?_ | refine bs_i (fun q => ?_) (fun q => ?_) | refine ckz (hgr) ?_ | refine cq (hgr) ?_ | refine ckz (head_b) ?_ | refine cq (head_b) ?_ | refine eqk rfl ?_ | refine ffin _ rfl rfl hS (Sub.refl _) rfl ⟨?_, rfl, rfl⟩)
      all_goals rfl
  have hg : greatB l = false := by cases h : greatB l with | true => exact absurd (.inl h) hbig | false => rfl
  rw [hg] at hgr
  have h8 : ¬ (more.length : Int) > 8 := fun h => hbig (.inr h)
  have h16 : l.length ≤ 16 := by
    unfold greatB at hg
    simp only [Bool.or_eq_false_iff, decide_eq_false_iff_not] at hg
    omega
  refine ACalls.fgo c6 rfl fun hS => ?_
  repeat' first | with_reducible refine fzD_ite (fun q => ?_) (fun q => ?_) | ((try conv => whnf); first | refine bs_f (decide_eq_false (show ¬ ((entR more).length : Int) > 8 by omega)) ?_ | refine bs_d (fun q => ?_) (fun q => ?_) | refine bs_n ?_ | refine bs_i (fun q => ?_) (fun q => ?_) | refine ckz (hgr) ?_ | refine cq (hgr) ?_ | (refine ckNE (G := fun r o => r = .po (S.length + 1) 0 ∧ Ch (look stdB) o) (Jn := fun o => [o, .arr [.map S.length]]) (ds' := []) rfl rfl (std_atB (by simp)) .nil ?_; rintro r o ⟨rfl, hch⟩) | (refine ckN (d := .po (S.length + 2 + 1) 0) (Jn := [.map kSl (MG.entKv sD []) 0, .arr [.po (S.length + 1) 0, .nilsl, .map (S.length + 2), .int .i64 0]]) rfl rfl (new_at (by simp)) ?_; have hB0 := bk_new (S := S) hch stdB_ok.1 stdB_ok.2) | refine eqk rfl ?_ | refine ffin _ rfl rfl hS (Sub.refl _) rfl ⟨?_, rfl, rfl⟩)
  conv => whnf
  refine floop (α := BmS) rfl rfl hS (fun s => s.i ≤ l.length ∧ s.E.length ≤ s.i ∧ BkR (S ++ s.J) S.length (S.length + 3) (S.length + 1) S.length (S.length + 2) stdB s.f s.E s.cl) (fun s => l.length - s.i) (fun s => [(6, .d (.int .i64 s.i)), (5, .d (.po (S.length + 3) 0)), (0, .d (.sl (ats l))), (1, .d (.sl (entR more)))]) (fun s => s.J) (fun _ => []) ⟨0, _, noneF, [], 0⟩ ⟨Nat.zero_le _, Nat.le_refl _, hB0⟩ (fstep_sub ⟨Sub.refl _, Sub.refl _, Sub.refl _, Sub.refl _, trivial⟩) ?_
  rintro ⟨i, J, f, E, cl⟩ ⟨hi, hE, hB⟩
  simp only at hi hE hB ⊢
  by_cases hlt : i < l.length
  · have hx := hR _ (mem_at hlt)
    have hmod : IntKind.wrap .u8 ((l[i]!).what) = (l[i]!).what ∨ True := .inr trivial
    by_cases hw : (l[i]!).what.tmod 4 = 1
    · skip
      repeat' first | with_reducible refine fzD_ite (fun q => ?_) (fun q => ?_) | ((try conv => whnf); first | refine bs_t (decide_eq_true (show (i : Int) < (ats l).length by omega)) ?_ | refine bs_t (decide_eq_true hw) ?_ | refine bs_d (fun q => ?_) (fun q => ?_) | refine bs_n ?_ | refine bs_i (fun q => ?_) (fun q => ?_) | refine pK_i (iaD_at (i := i) rfl hlt) ?_ | (refine ckBk rfl rfl (closeK hB (l[i]!).mo) (SubL.refl _) ?_; rintro r J2 ⟨rfl, hB2⟩) | refine eqk rfl ?_ | refine ffin _ rfl rfl hS (Sub.refl _) rfl ⟨?_, rfl, rfl⟩)
      conv => whnf
      exact fnext (α := BmS) ⟨i + 1, J2, f, E, _⟩ ⟨by simp only; omega, by simp only; omega, hB2⟩ (by simp only; omega) (fstep_sub ⟨Sub.int (by first | rfl | omega | (refine Int.sub_eq_zero.mp ?_; simp (disch := ((try unfold I64); omega)) only [wi64_id, td]; omega)), Sub.refl _, Sub.refl _, Sub.refl _, trivial⟩)
    · skip
      repeat' first | with_reducible refine fzD_ite (fun q => ?_) (fun q => ?_) | ((try conv => whnf); first | refine bs_t (decide_eq_true (show (i : Int) < (ats l).length by omega)) ?_ | refine bs_f (decide_eq_false hw) ?_ | refine bs_d (fun q => ?_) (fun q => ?_) | refine bs_n ?_ | refine bs_i (fun q => ?_) (fun q => ?_) | refine pK_i (iaD_at (i := i) rfl hlt) ?_ | (refine ckBk rfl rfl (postA hB (l[i]!).e hx.e (by omega)) (SubL.refl _) ?_; rintro r J2 ⟨rfl, hB2, -⟩) | refine eqk rfl ?_ | refine ffin _ rfl rfl hS (Sub.refl _) rfl ⟨?_, rfl, rfl⟩)
      conv => whnf
      exact fnext (α := BmS) ⟨i + 1, J2, nextF stdB f cl (l[i]!).e, nextE stdB f cl E (l[i]!).e, cl⟩ ⟨by simp only; omega, by have := nextE_len stdB f cl E (l[i]!).e; simp only; omega, hB2⟩ (by simp only; omega) (fstep_sub ⟨Sub.int (by first | rfl | omega | (refine Int.sub_eq_zero.mp ?_; simp (disch := ((try unfold I64); omega)) only [wi64_id, td]; omega)), Sub.refl _, Sub.refl _, Sub.refl _, trivial⟩)
  have hmod : (fun (i : Nat) => i) 0 = 0 := rfl
  repeat' first | with_reducible refine fzD_ite (fun q => ?_) (fun q => ?_) | ((try conv => whnf); first | refine bs_f (decide_eq_false (show ¬ (i : Int) < (ats l).length by omega)) ?_ | refine bs_d (fun q => ?_) (fun q => ?_) | refine bs_n ?_ | refine bs_i (fun q => ?_) (fun q => ?_) | refine eqk rfl ?_ | refine ffin _ rfl rfl hS (Sub.refl _) rfl ⟨?_, rfl, rfl⟩)
  conv => whnf
  refine floop (α := Nat) rfl rfl hS (fun k => k ≤ more.length) (fun k => more.length - k) (fun k => [(7, .d (.int .i64 k)), (5, .d (.po (S.length + 3) 0)), (1, .d (.sl (entR more)))]) (fun _ => J) (fun _ => []) 0 (Nat.zero_le _) (fstep_sub ⟨Sub.refl _, Sub.refl _, Sub.refl _, trivial⟩) ?_
  intro k hk
  have hll : ∀ e : Ent, (lns e.L).length = e.L.length := fun e => lns_len e.L
  by_cases hkl : k < more.length
  · have hat := List.getElem?_eq_getElem hkl
    have hix := iaD_en (l := more) (i := k) (n := (k : Int)) rfl hat
    have hl2 := hll more[k]
    by_cases h20 : (more[k].L.length : Int) > 20
    · skip
      repeat' first | with_reducible refine fzD_ite (fun q => ?_) (fun q => ?_) | ((try conv => whnf); first | refine bs_t (decide_eq_true (show (k : Int) < (entR more).length by omega)) ?_ | refine bs_t (decide_eq_true (show ((lns more[k].L).length : Int) > 20 by omega)) ?_ | refine bs_d (fun q => ?_) (fun q => ?_) | refine bs_n ?_ | refine bs_i (fun q => ?_) (fun q => ?_) | refine pK_i hix ?_ | refine ckz (head_b) ?_ | refine cq (head_b) ?_ | refine eqk rfl ?_ | refine ffin _ rfl rfl hS (Sub.refl _) rfl ⟨?_, rfl, rfl⟩)
      all_goals rfl
    · skip
      repeat' first | with_reducible refine fzD_ite (fun q => ?_) (fun q => ?_) | ((try conv => whnf); first | refine bs_t (decide_eq_true (show (k : Int) < (entR more).length by omega)) ?_ | refine bs_f (decide_eq_false (show ¬ ((lns more[k].L).length : Int) > 20 by omega)) ?_ | refine bs_d (fun q => ?_) (fun q => ?_) | refine bs_n ?_ | refine bs_i (fun q => ?_) (fun q => ?_) | refine pK_i hix ?_ | refine eqk rfl ?_ | refine ffin _ rfl rfl hS (Sub.refl _) rfl ⟨?_, rfl, rfl⟩)
      conv => whnf
      exact fnext (α := Nat) (k + 1) (by omega) (by omega) (fstep_sub ⟨Sub.int (by first | rfl | omega | (refine Int.sub_eq_zero.mp ?_; simp (disch := ((try unfold I64); omega)) only [wi64_id, td]; omega)), Sub.refl _, Sub.refl _, trivial⟩)
  have hm8 : more.length ≤ 8 := by omega
  have hmay := fun (X : List O) (hX : BkR X S.length (S.length + 3) (S.length + 1) S.length (S.length + 2) stdB f E cl) (tk : Tks) => may_b (tk := tk) hX more (by omega) hRm
  obtain ⟨e0, he0⟩ : ∃ e0, e0 = postsN stdB cl f more := ⟨_, rfl⟩
  simp only [may_is, ← he0] at hmay
  have htl : (triL stdB f).length < 4611686018427387904 := by have := triL_len stdB f; have := stdB_ok.2; omega
  have hsm := sameB (triL stdB f) (triL stdB f) htl htl
  rw [decide_eq_true rfl] at hsm
  repeat' first | with_reducible refine fzD_ite (fun q => ?_) (fun q => ?_) | ((try conv => whnf); first | refine bs_f (decide_eq_false (show ¬ (k : Int) < (entR more).length by omega)) ?_ | refine bs_t (decide_eq_true rfl) ?_ | refine bs_d (fun q => ?_) (fun q => ?_) | refine bs_n ?_ | refine bs_i (fun q => ?_) (fun q => ?_) | refine ckA rfl rfl (lenK hB) ?_ | refine ckA rfl rfl (triK hB rfl) ?_ | refine ckA rfl rfl (hmay _ hB _) ?_ | refine ckz (hsm) ?_ | refine cq (hsm) ?_ | refine eqk rfl ?_ | refine ffin _ rfl rfl hS (Sub.refl _) rfl ⟨?_, rfl, rfl⟩)
  conv => whnf
  refine floop (α := BmS) rfl rfl hS (fun s => s.i ≤ more.length ∧ s.E.length ≤ i + s.i ∧ e0 = postsN stdB cl s.f (more.drop s.i) ∧ BkR (S ++ s.J) S.length (S.length + 3) (S.length + 1) S.length (S.length + 2) stdB s.f s.E cl) (fun s => more.length - s.i) (fun s => [(11, .d (.int .i64 s.i)), (5, .d (.po (S.length + 3) 0)), (1, .d (.sl (entR more))), (10, .d (.int .i64 e0))]) (fun s => s.J) (fun _ => []) ⟨0, J, f, E, 0⟩ ⟨Nat.zero_le _, hE, he0, hB⟩ (fstep_sub ⟨Sub.refl _, Sub.refl _, Sub.refl _, Sub.refl _, trivial⟩) ?_
  rintro ⟨j, J3, f3, E3, z3⟩ ⟨hj, hE3, hp3, hB3⟩
  simp only at hj hE3 hp3 hB3 ⊢
  by_cases hjl : j < more.length
  · have hat := List.getElem?_eq_getElem hjl
    have hix := iaD_en (l := more) (i := j) (n := (j : Int)) rfl hat
    have hRe := hRm _ (List.getElem_mem hjl)
    rw [List.drop_eq_getElem_cons hjl, postsN] at hp3
    generalize more[j] = e at hat hix hRe hp3
    have hpa := postA (tk := tk) hB3 e hRe (by omega)
    obtain ⟨n, hn⟩ : ∃ n, n = postN stdB f3 cl e := ⟨_, rfl⟩
    obtain ⟨num, hnum⟩ : ∃ n, n = numP stdB f3 cl E3 e := ⟨_, rfl⟩
    have hlE := nextE_len stdB f3 cl E3 e
    rw [← hn] at hp3
    by_cases h0 : n = 0
    · rw [if_neg (by simp [h0])] at hp3
      have hf' : nextF stdB f3 cl e = postF f3 e := if_pos (by rw [← hn]; exact h0)
      rw [← hn, ← hnum, h0] at hpa
      rw [← hf'] at hp3
      repeat' first | with_reducible refine fzD_ite (fun q => ?_) (fun q => ?_) | ((try conv => whnf); first | refine bs_t (decide_eq_true (show (j : Int) < (entR more).length by omega)) ?_ | refine bs_t (decide_eq_true rfl) ?_ | refine bs_d (fun q => ?_) (fun q => ?_) | refine bs_n ?_ | refine bs_i (fun q => ?_) (fun q => ?_) | refine pK_i hix ?_ | (refine ckBk rfl rfl (by rw [List.append_nil]; exact hpa) (SubL.refl _) ?_; rintro r J4 ⟨rfl, hB4, -⟩) | refine eqk rfl ?_ | refine ffin _ rfl rfl hS (Sub.refl _) rfl ⟨?_, rfl, rfl⟩)
      conv => whnf
      exact fnext (α := BmS) ⟨j + 1, J4, nextF stdB f3 cl e, nextE stdB f3 cl E3 e, 0⟩ ⟨by simp only; omega, by simp only; omega, hp3, hB4⟩ (by simp only; omega) (fstep_sub ⟨Sub.int (by first | rfl | omega | (refine Int.sub_eq_zero.mp ?_; simp (disch := ((try unfold I64); omega)) only [wi64_id, td]; omega)), Sub.refl _, Sub.refl _, Sub.refl _, trivial⟩)
    · rw [if_pos (by simpa using h0)] at hp3
      rw [← hn, ← hnum] at hpa
      subst hp3
      repeat' first | with_reducible refine fzD_ite (fun q => ?_) (fun q => ?_) | ((try conv => whnf); first | refine bs_t (decide_eq_true (show (j : Int) < (entR more).length by omega)) ?_ | refine bs_f (decide_eq_false h0) ?_ | refine bs_t (decide_eq_true rfl) ?_ | refine bs_d (fun q => ?_) (fun q => ?_) | refine bs_n ?_ | refine bs_i (fun q => ?_) (fun q => ?_) | refine pK_i hix ?_ | (refine ckBk rfl rfl (by rw [List.append_nil]; exact hpa) (SubL.refl _) ?_; rintro r J4 ⟨rfl, hB4, -⟩) | refine ckz (head_b) ?_ | refine cq (head_b) ?_ | refine eqk rfl ?_ | refine ffin _ rfl rfl hS (Sub.refl _) rfl ⟨?_, rfl, rfl⟩)
      all_goals rfl
  · rw [List.drop_of_length_le (by omega), postsN] at hp3
    subst hp3
    repeat' first | with_reducible refine fzD_ite (fun q => ?_) (fun q => ?_) | ((try conv => whnf); first | refine bs_f (decide_eq_false (show ¬ (j : Int) < (entR more).length by omega)) ?_ | refine bs_t (decide_eq_true rfl) ?_ | refine bs_d (fun q => ?_) (fun q => ?_) | refine bs_n ?_ | refine bs_i (fun q => ?_) (fun q => ?_) | refine ckz (head_b) ?_ | refine cq (head_b) ?_ | refine eqk rfl ?_ | refine ffin _ rfl rfl hS (Sub.refl _) rfl ⟨?_, rfl, rfl⟩)
    all_goals rfl
end Go.KL.YtkojphmejddhiaaDoor.J

/- acts on books, read -/
set_option linter.unusedVariables false
set_option linter.unusedSimpArgs false
set_option maxRecDepth 100000
set_option maxHeartbeats 4000000
namespace Go.KL.YtkojphmejddhiaaDoor.J
open Go Go.KL Go.RowKit Go.Proofs Go.Proofs.YtkojphmejddhiaaDoor Go.ChangeShapes Go.WideShapes Go.KL.YtkojphmejddhiaaDoor

def shAcB : Sh := .agg [.int .i64, .int .i64, .int .u8, .str, .bool]
def shAtB : Sh := .agg [.int .u8, shEnt, .int .i64, shAcB]
theorem ok_at {H : Type} {d : DataW H} (h : shAtB.ok d) : ∃ x : At, x.R ∧ shAtB.cells d = x.cs := by
  obtain ⟨parts, rfl, d1, _, rfl, ⟨n1, rfl, w1⟩, d2, _, rfl, h2, d3, _, rfl, ⟨n3, rfl, w3⟩, d4, _, rfl, h4, rfl⟩ := h
  obtain ⟨e, hR, hcs⟩ := ok_ent h2
  obtain ⟨parts, rfl, a1, _, rfl, ⟨m1, rfl, v1⟩, a2, _, rfl, ⟨m2, rfl, v2⟩, a3, _, rfl, ⟨m3, rfl, v3⟩, a4, _, rfl, ⟨s4, rfl, v4⟩, a5, _, rfl, ⟨b5, rfl⟩, rfl⟩ := h4
  refine ⟨⟨n1, e, n3, ⟨m1, m2, m3, ⟨s4.toArray⟩, b5⟩⟩, ⟨ok_u8 w1, hR, ok_i64 w3⟩, ?_⟩
  show Sh.cells (.int .u8) _ ++ (shEnt.cells d2 ++ _) = _
  rw [hcs]; rfl
end Go.KL.YtkojphmejddhiaaDoor.J

/- BooksStay -/
set_option linter.unusedVariables false
set_option linter.unusedSimpArgs false
set_option linter.unusedSectionVars false
set_option maxRecDepth 4000
namespace Go.KL.YtkojphmejddhiaaDoor.J
open Go Go.KL Go.RowKit Go.Proofs Go.KL.YtkojphmejddhiaaDoor

theorem c3 : cFun E0.P 3 = some ⟨151, [(6, none)], .seq (.rg [⟨some 6, none, .mv (.k (.bool false))⟩]) (.seq (.seq (.rg [⟨some 19, none, .mv (.t 0)⟩, ⟨some 20, none, .call 8 [.t 19]⟩]) (.cond (.t 20) (.seq (.rg [⟨some 21, none, .call 9 []⟩, ⟨some 6, none, .mv (.t 21)⟩]) .ret) .skip)) (.seq (.rg [⟨some 22, none, .call 10 []⟩, ⟨some 7, none, .mv (.t 22)⟩]) (.seq (.rg [⟨some 23, none, .mv (.t 7)⟩, ⟨some 24, none, .call 11 [.t 23]⟩, ⟨some 8, none, .mv (.t 24)⟩]) (.seq (.seq (.rg [⟨some 9, none, .mv (.k (.int .i64 0))⟩]) (.block 0 (.loop (.seq (.seq (.rg [⟨some 25, none, .mv (.t 9)⟩, ⟨some 26, none, .mv (.t 0)⟩, ⟨some 27, none, .len 1 (.t 26)⟩, ⟨some 28, none, .bin .lss .leaf (.t 25) (.t 27)⟩]) (.cond (.t 28) .skip (.exit 0))) (.seq (.block 1 (.seq (.rg [⟨some 31, none, .mv (.t 0)⟩, ⟨some 32, none, .mv (.t 9)⟩, ⟨some 33, none, .ia 11 (.t 31) (.t 32)⟩, ⟨some 34, none, .ld 11 true (.t 33)⟩, ⟨some 10, none, .alloc [.int .u8 0, .int .i64 0, .int .u8 0, .int .u64 0, .nilsl, .int .i64 0, .int .i64 0, .int .i64 0, .int .u8 0, .str ⟨#[]⟩, .bool false] 36⟩, ⟨none, none, .st 11 (.t 10) (.t 34)⟩]) (.seq (.rg [⟨some 35, none, .mv (.t 8)⟩, ⟨some 36, none, .call 12 [.t 35]⟩, ⟨some 37, none, .mv (.t 8)⟩, ⟨some 38, none, .call 13 [.t 37]⟩, ⟨some 39, none, .mv (.t 8)⟩, ⟨some 40, none, .mv (.t 1)⟩, ⟨some 41, none, .mv (.t 2)⟩, ⟨some 42, none, .call 14 [.t 39, .t 40, .t 41]⟩, ⟨some 11, none, .mv (.t 36)⟩, ⟨some 12, none, .mv (.t 38)⟩, ⟨some 13, none, .mv (.t 42)⟩]) (.seq (.rg [⟨some 43, none, .mv (.t 2)⟩, ⟨some 44, none, .mv (.t 8)⟩, ⟨some 45, none, .call 15 [.t 44]⟩, ⟨some 46, none, .bin .leq .leaf (.t 43) (.t 45)⟩, ⟨some 14, none, .mv (.t 46)⟩]) (.seq (.seq (.rg [⟨some 47, none, .fa 0 (.t 10)⟩, ⟨some 48, none, .ld 1 false (.t 47)⟩, ⟨some 49, none, .bin .rem .leaf (.t 48) (.k (.int .u8 4))⟩, ⟨some 50, none, .bin .eql .leaf (.t 49) (.k (.int .u8 1))⟩]) (.cond (.t 50) (.seq (.rg [⟨some 51, none, .mv (.t 8)⟩, ⟨some 52, none, .call 15 [.t 51]⟩, ⟨some 15, none, .mv (.t 52)⟩]) (.seq (.rg [⟨some 53, none, .mv (.t 8)⟩, ⟨some 54, none, .fa 5 (.t 10)⟩, ⟨some 55, none, .ld 1 false (.t 54)⟩, ⟨some 56, none, .call 16 [.t 53, .t 55]⟩, ⟨some 16, none, .mv (.t 56)⟩]) (.seq (.seq (.rg [⟨some 57, none, .mv (.t 16)⟩, ⟨some 58, none, .bin .eql .leaf (.t 57) (.k (.int .i64 0))⟩, ⟨some 59, none, .fa 5 (.t 10)⟩, ⟨some 60, none, .ld 1 false (.t 59)⟩, ⟨some 61, none, .mv (.t 15)⟩, ⟨some 62, none, .bin .gtr .leaf (.t 60) (.t 61)⟩, ⟨some 63, none, .mv (.t 62)⟩, ⟨some 64, some (63, true), .fa 5 (.t 10)⟩, ⟨some 65, some (63, true), .ld 1 false (.t 64)⟩, ⟨some 66, some (63, true), .bin .leq .leaf (.t 65) (.k (.int .i64 119988))⟩, ⟨some 67, none, .pick (.t 63) (.t 66) (.k (.bool false))⟩, ⟨some 68, none, .mv (.t 67)⟩, ⟨some 69, some (68, true), .fa 5 (.t 10)⟩, ⟨some 70, some (68, true), .ld 1 false (.t 69)⟩, ⟨some 71, some (68, true), .bin .geq .leaf (.t 70) (.k (.int .i64 1))⟩, ⟨some 72, none, .pick (.t 68) (.t 71) (.k (.bool false))⟩, ⟨some 73, none, .bin .neq .leafB (.t 58) (.t 72)⟩, ⟨some 74, none, .mv (.t 73)⟩, ⟨some 75, some (74, false), .mv (.t 16)⟩, ⟨some 76, some (74, false), .bin .neq .leaf (.t 75) (.k (.int .i64 0))⟩, ⟨some 77, some (74, false), .mv (.t 76)⟩, ⟨some 78, some (77, true), .mv (.t 8)⟩, ⟨some 79, some (77, true), .call 15 [.t 78]⟩, ⟨some 80, some (77, true), .mv (.t 15)⟩, ⟨some 81, some (77, true), .bin .neq .leaf (.t 79) (.t 80)⟩, ⟨some 82, some (74, false), .pick (.t 77) (.t 81) (.k (.bool false))⟩, ⟨some 83, none, .pick (.t 74) (.k (.bool true)) (.t 82)⟩, ⟨some 84, none, .mv (.t 83)⟩, ⟨some 85, some (84, false), .mv (.t 8)⟩, ⟨some 86, some (84, false), .call 13 [.t 85]⟩, ⟨some 87, some (84, false), .mv (.t 12)⟩, ⟨some 88, some (84, false), .bin .neq .leaf (.t 86) (.t 87)⟩, ⟨some 89, none, .pick (.t 84) (.k (.bool true)) (.t 88)⟩, ⟨some 90, none, .mv (.t 89)⟩, ⟨some 91, some (90, false), .mv (.t 8)⟩, ⟨some 92, some (90, false), .call 12 [.t 91]⟩, ⟨some 93, some (90, false), .mv (.t 11)⟩, ⟨some 94, some (90, false), .call 17 [.t 92, .t 93]⟩, ⟨some 95, some (90, false), .un .not (.t 94)⟩, ⟨some 96, none, .pick (.t 90) (.k (.bool true)) (.t 95)⟩]) (.cond (.t 96) (.seq (.rg [⟨some 6, none, .mv (.k (.bool false))⟩]) .ret) .skip)) (.exit 1)))) .skip)) (.seq (.rg [⟨some 98, none, .mv (.t 8)⟩, ⟨some 99, none, .fa 1 (.t 10)⟩, ⟨some 100, none, .ld 4 true (.t 99)⟩, ⟨some 101, none, .call 18 [.t 98, .t 100]⟩, ⟨some 97, none, .mv (.t 101)⟩, ⟨some 102, none, .ext 0 (.t 97)⟩, ⟨some 103, none, .ext 1 (.t 97)⟩, ⟨some 17, none, .mv (.t 102)⟩, ⟨some 18, none, .mv (.t 103)⟩]) (.seq (.seq (.rg [⟨some 104, none, .mv (.t 18)⟩, ⟨some 105, none, .bin .neq .leaf (.t 104) (.k (.int .i64 0))⟩, ⟨some 106, none, .mv (.t 105)⟩, ⟨some 107, some (106, true), .mv (.t 17)⟩, ⟨some 108, some (106, true), .bin .neq .leaf (.t 107) (.k (.int .u64 0))⟩, ⟨some 109, some (106, true), .mv (.t 108)⟩, ⟨some 110, some (109, false), .mv (.t 8)⟩, ⟨some 111, some (109, false), .call 13 [.t 110]⟩, ⟨some 112, some (109, false), .mv (.t 12)⟩, ⟨some 113, some (109, false), .bin .neq .leaf (.t 111) (.t 112)⟩, ⟨some 114, some (106, true), .pick (.t 109) (.k (.bool true)) (.t 113)⟩, ⟨some 115, some (106, true), .mv (.t 114)⟩, ⟨some 116, some (115, false), .mv (.t 8)⟩, ⟨some 117, some (115, false), .call 12 [.t 116]⟩, ⟨some 118, some (115, false), .mv (.t 11)⟩, ⟨some 119, some (115, false), .call 17 [.t 117, .t 118]⟩, ⟨some 120, some (115, false), .un .not (.t 119)⟩, ⟨some 121, some (106, true), .pick (.t 115) (.k (.bool true)) (.t 120)⟩, ⟨some 122, none, .pick (.t 106) (.t 121) (.k (.bool false))⟩, ⟨some 123, none, .mv (.t 122)⟩, ⟨some 124, some (123, false), .mv (.t 18)⟩, ⟨some 125, some (123, false), .bin .eql .leaf (.t 124) (.k (.int .i64 0))⟩, ⟨some 126, some (123, false), .mv (.t 125)⟩, ⟨some 127, some (126, true), .mv (.t 8)⟩, ⟨some 128, some (126, true), .call 13 [.t 127]⟩, ⟨some 129, some (126, true), .mv (.t 12)⟩, ⟨some 130, some (126, true), .bin .add .leaf (.t 129) (.k (.int .i64 1))⟩, ⟨some 131, some (126, true), .bin .neq .leaf (.t 128) (.t 130)⟩, ⟨some 132, some (126, true), .mv (.t 131)⟩, ⟨some 133, some (132, false), .mv (.t 17)⟩, ⟨some 134, some (132, false), .mv (.t 12)⟩, ⟨some 135, some (132, false), .bin .add .leaf (.t 134) (.k (.int .i64 1))⟩, ⟨some 136, some (132, false), .conv .u64 (.t 135)⟩, ⟨some 137, some (132, false), .bin .neq .leaf (.t 133) (.t 136)⟩, ⟨some 138, some (126, true), .pick (.t 132) (.k (.bool true)) (.t 137)⟩, ⟨some 139, some (123, false), .pick (.t 126) (.t 138) (.k (.bool false))⟩, ⟨some 140, none, .pick (.t 123) (.k (.bool true)) (.t 139)⟩]) (.cond (.t 140) (.seq (.rg [⟨some 6, none, .mv (.k (.bool false))⟩]) .ret) .skip)) (.seq (.rg [⟨some 141, none, .mv (.t 14)⟩, ⟨some 142, none, .mv (.t 141)⟩, ⟨some 143, some (142, true), .mv (.t 8)⟩, ⟨some 144, some (142, true), .mv (.t 1)⟩, ⟨some 145, some (142, true), .mv (.t 2)⟩, ⟨some 146, some (142, true), .call 14 [.t 143, .t 144, .t 145]⟩, ⟨some 147, some (142, true), .mv (.t 13)⟩, ⟨some 148, some (142, true), .bin .neq .leaf (.t 146) (.t 147)⟩, ⟨some 149, none, .pick (.t 142) (.t 148) (.k (.bool false))⟩]) (.cond (.t 149) (.seq (.rg [⟨some 6, none, .mv (.k (.bool false))⟩]) .ret) .skip))))))))) (.rg [⟨some 29, none, .mv (.t 9)⟩, ⟨some 30, none, .bin .add .leaf (.t 29) (.k (.int .i64 1))⟩, ⟨some 9, none, .mv (.t 30)⟩])))))) (.seq (.rg [⟨some 150, none, .call 9 []⟩, ⟨some 6, none, .mv (.t 150)⟩]) .ret)))))⟩ := by kernel_rfl

section
variable {X : List O} {tk : Tks} {lo bid cid kid mid : Nat} {ql : AcL} {f : Slot → Option Int} {E : List Ent} {closed : Int}
/-- the last closed month behind Close -/
def clN (closed month : Int) : Int := if closeN closed month = 0 then month else closed
theorem closeA (h : BkR X lo bid cid kid mid ql f E closed) (month : Int) : ACalls E0 16 [.po bid 0, .int .i64 month] X tk (fun r X' tk' => (r = .int .i64 (closeN closed month) ∧ BkR X' lo bid cid kid mid ql f E (clN closed month) ∧ Keeps lo bid mid X X') ∧ ((∀ id, id < lo → X'[id]? = X[id]?) ∧ lo ≤ X'.length) ∧ tk' = tk) := by
  obtain ⟨vid, hb, hB⟩ := bk_close h month
  have hbl := (List.getElem?_eq_some_iff.1 hb).1
  have hlo := h.lo.1
  refine (close_b hb month).mono ?_
  rintro r X' tk' ⟨rfl, rfl, rfl⟩
  unfold clN
  by_cases hc : closeN closed month = 0
  · rw [if_pos hc, if_pos hc]
    exact ⟨⟨rfl, hB, ⟨by simp, fun id hi => List.getElem?_set_ne (by omega), fun id o ho hne _ _ => by rw [List.getElem?_set_ne (Ne.symm hne)]; exact ho⟩⟩, ⟨fun id hi => List.getElem?_set_ne (by omega), by rw [List.length_set]; omega⟩, rfl⟩
  · rw [if_neg hc, if_neg hc]
    exact ⟨⟨rfl, h, Keeps.refl ..⟩, ⟨fun id hi => rfl, by omega⟩, rfl⟩
/-- an object of the law's own stays -/
theorem Keeps.own {S J J' : List O} {k : Nat} {cs : List D} (h : Keeps lo bid mid (S ++ J) (S ++ J')) (hk : J[k]? = some (.arr cs)) (h1 : S.length + k ≠ bid) (h2 : S.length + k ≠ mid) : J'[k]? = some (.arr cs) := by
  have := h.el (S.length + k) (.arr cs) (by rw [lk]; exact hk) h1 h2 (fun _ _ _ h => by cases h)
  rwa [lk] at this
end
theorem BkR.app {X : List O} {lo bid cid kid mid : Nat} {ql : AcL} {f : Slot → Option Int} {E : List Ent} {closed : Int} (h : BkR X lo bid cid kid mid ql f E closed) (J : List O) : BkR (X ++ J) lo bid cid kid mid ql f E closed := by
  obtain ⟨vid, ety, hb, hv⟩ := h.b
  obtain ⟨oc, hk, hch⟩ := h.k
  obtain ⟨om, hm, hf⟩ := h.m
  exact ⟨⟨vid, ety, at_old hb, fun hE => ⟨at_old (hv hE).1, (hv hE).2⟩⟩, at_old h.c, ⟨oc, at_old hk, hch⟩, ⟨om, at_old hm, hf⟩, h.ok, h.lq, h.lo, h.I⟩
theorem BkR.own {S J : List O} {lo bid cid kid mid : Nat} {ql : AcL} {f : Slot → Option Int} {E : List Ent} {closed : Int} (h : BkR (S ++ J) lo bid cid kid mid ql f E closed) (o : O) : BkR (S ++ (J ++ [o])) lo bid cid kid mid ql f E closed := by
  rw [← List.append_assoc]; exact h.app _
theorem set_last {α : Type} (l : List α) (a b : α) : (l ++ [a]).set l.length b = l ++ [b] := by
  rw [List.set_append_right _ _ (Nat.le_refl _), Nat.sub_self]; rfl
theorem mem_last {α : Type} (l : List α) (a : α) : (l ++ [a])[l.length]? = some a := List.getElem?_concat_length
theorem close0 {cl mo : Int} : closeN cl mo = 0 ↔ (1 ≤ mo ∧ mo ≤ 119988 ∧ cl < mo) := by
  unfold closeN; split
  · constructor
    · intro h; cases h
    · intro h; omega
  · split
    · constructor
      · intro h; cases h
      · intro h; omega
    · constructor
      · intro _; omega
      · intro _; rfl
set_option maxHeartbeats 4000000 in
theorem booksStay (l : List At) (hR : ∀ x ∈ l, x.R) (hlm : l.length ≤ maxLen) (account month : Int) (hm : I64 month) : Pure 3 [.sl (ats l), .int .i64 account, .int .i64 month] (.bool true) := by
  intro S tk
  have hla := ats_len l
  have hgr := great l hlm
  cases hg : greatB l with
  | true =>
    rw [hg] at hgr
    refine ACalls.fgo c3 rfl fun hS => ?_
    repeat' first | with_reducible refine fzD_ite (fun q => ?_) (fun q => ?_) | ((try conv => whnf); first | refine bs_d (fun q => ?_) (fun q => ?_) | refine bs_n ?_ | refine bs_i (fun q => ?_) (fun q => ?_) | refine ckz (hgr) ?_ | refine cq (hgr) ?_ | refine ckz (head_b) ?_ | refine cq (head_b) ?_ | refine eqk rfl ?_ | refine ffin _ rfl rfl hS (Sub.refl _) rfl ⟨?_, rfl, rfl⟩)
    all_goals rfl
  | false =>
  rw [hg] at hgr
  have h16 : l.length ≤ 16 := by
    unfold greatB at hg
    simp only [Bool.or_eq_false_iff, decide_eq_false_iff_not] at hg
    omega
  refine ACalls.fgoC c3 rfl [11] rfl fun hS => ?_
  repeat' first | with_reducible refine fzD_ite (fun q => ?_) (fun q => ?_) | ((try conv => whnf); first | refine bs_d (fun q => ?_) (fun q => ?_) | refine bs_n ?_ | refine bs_i (fun q => ?_) (fun q => ?_) | refine ckz (hgr) ?_ | refine cq (hgr) ?_ | (refine ckNE (G := fun r o => r = .po (S.length + 1) 0 ∧ Ch (look stdB) o) (Jn := fun o => [o, .arr [.map S.length]]) (ds' := []) rfl rfl (std_atB (by simp)) .nil ?_; rintro r o ⟨rfl, hch⟩) | (refine ckN (d := .po (S.length + 2 + 1) 0) (Jn := [.map kSl (MG.entKv sD []) 0, .arr [.po (S.length + 1) 0, .nilsl, .map (S.length + 2), .int .i64 0]]) rfl rfl (new_at (by simp)) ?_; have hB0 := bk_new (S := S) hch stdB_ok.1 stdB_ok.2) | refine eqk rfl ?_ | refine ffin _ rfl rfl hS (Sub.refl _) rfl ⟨?_, rfl, rfl⟩)
  conv => whnf
  refine floop (α := BmS) rfl rfl hS (fun s => s.i ≤ l.length ∧ s.E.length ≤ s.i ∧ 4 ≤ s.J.length ∧ BkR (S ++ s.J) S.length (S.length + 3) (S.length + 1) S.length (S.length + 2) stdB s.f s.E s.cl) (fun s => l.length - s.i) (fun s => [(9, .d (.int .i64 s.i)), (8, .d (.po (S.length + 3) 0)), (0, .d (.sl (ats l))), (1, .d (.int .i64 account)), (2, .d (.int .i64 month))]) (fun s => s.J) (fun _ => []) ⟨0, _, noneF, [], 0⟩ ⟨Nat.zero_le _, Nat.le_refl _, (by exact Nat.le_refl 4), hB0⟩ (fstep_sub ⟨Sub.refl _, Sub.refl _, Sub.refl _, Sub.refl _, Sub.refl _, trivial⟩) ?_
  rintro ⟨i, J, f, E, cl⟩ ⟨hi, hE, hJ4, hB⟩
  simp only at hi hE hJ4 hB ⊢
  by_cases hlt : i < l.length
  rotate_left
  · skip
    repeat' first | with_reducible refine fzD_ite (fun q => ?_) (fun q => ?_) | ((try conv => whnf); first | refine bs_f (decide_eq_false (show ¬ (i : Int) < (ats l).length by omega)) ?_ | refine bs_d (fun q => ?_) (fun q => ?_) | refine bs_n ?_ | refine bs_i (fun q => ?_) (fun q => ?_) | refine ckz (head_b) ?_ | refine cq (head_b) ?_ | refine eqk rfl ?_ | refine ffin _ rfl rfl hS (Sub.refl _) rfl ⟨?_, rfl, rfl⟩)
    all_goals rfl
  have hx := hR _ (mem_at hlt)
  generalize hxe : l[i]! = x at hx
  have hix := iaD_at (l := l) (i := i) (n := (i : Int)) rfl hlt
  rw [hxe] at hix
  have htl : (triL stdB f).length < 4611686018427387904 := by have := triL_len stdB f; have := stdB_ok.2; omega
  have hsm := sameB (triL stdB f) (triL stdB f) htl htl
  rw [decide_eq_true rfl] at hsm
  obtain ⟨z, hz⟩ : ∃ z, z = inV f account month := ⟨_, rfl⟩
  repeat' first | with_reducible refine fzD_ite (fun q => ?_) (fun q => ?_) | ((try conv => whnf); first | refine bs_t (decide_eq_true (show (i : Int) < (ats l).length by omega)) ?_ | refine bs_d (fun q => ?_) (fun q => ?_) | refine bs_n ?_ | refine bs_i (fun q => ?_) (fun q => ?_) | refine pK_i hix ?_ | refine eqk rfl ?_ | refine ffin _ rfl rfl hS (Sub.refl _) rfl ⟨?_, rfl, rfl⟩)
  conv => whnf
  refine fcut (α := List O) rfl (fun J1 => J1 = J ++ [.arr x.cs]) (fun _ => [(9, .d (.int .i64 i)), (8, .d (.po (S.length + 3) 0)), (0, .d (.sl (ats l))), (1, .d (.int .i64 account)), (2, .d (.int .i64 month)), (10, .d (.po (S.length + J.length) 0))]) (fun _ => S) (fun J1 => J1) (fun _ => []) (fun _ _ => ⟨rfl, hS⟩) ?_ ?_
  · skip
    repeat' first | with_reducible refine fzD_ite (fun q => ?_) (fun q => ?_) | ((try conv => whnf); first | refine bs_d (fun q => ?_) (fun q => ?_) | refine bs_n ?_ | refine bs_i (fun q => ?_) (fun q => ?_) | refine pK_i hix ?_ | refine fzK_go ?_ | refine fzL_go ?_ | rw [List.getElem?_concat_length] | refine eqk rfl ?_ | refine ffin _ rfl rfl hS (Sub.refl _) rfl ⟨?_, rfl, rfl⟩)
    conv => whnf
    exact fcnext (α := List O) _ rfl rfl (fstep_J (set_last _ _ _) ⟨Sub.refl _, Sub.refl _, Sub.refl _, Sub.refl _, Sub.refl _, Sub.refl _, trivial⟩)
  intro J1 hJ1
  have hB1 : BkR (S ++ J1) S.length (S.length + 3) (S.length + 1) S.length (S.length + 2) stdB f E cl := hJ1 ▸ hB.own (.arr x.cs)
  have hk1 : J1[J.length]? = some (.arr x.cs) := by rw [hJ1]; exact mem_last _ _
  have hl1 : J1.length = J.length + 1 := by rw [hJ1]; simp
  clear hJ1
  by_cases hw : x.what.tmod 4 = 1
  · have hcl0 := close0 (cl := cl) (mo := x.mo)
    have hcA := closeA (tk := tk) hB1 x.mo
    obtain ⟨n, hn⟩ : ∃ n, n = closeN cl x.mo := ⟨_, rfl⟩
    obtain ⟨c2, hc2⟩ : ∃ c, c = clN cl x.mo := ⟨_, rfl⟩
    rw [← hn] at hcA hcl0
    rw [← hc2] at hcA
    by_cases h0 : n = 0
    · obtain ⟨m1, m2, m3⟩ := hcl0.1 h0
      subst h0
      repeat' first | with_reducible refine fzD_ite (fun q => ?_) (fun q => ?_) | ((try conv => whnf); first | refine bs_t (decide_eq_true hw) ?_ | refine bs_t (decide_eq_true m3) ?_ | refine bs_t (decide_eq_true m2) ?_ | refine bs_t (decide_eq_true m1) ?_ | refine bs_t (decide_eq_true rfl) ?_ | refine bs_d (fun q => ?_) (fun q => ?_) | refine bs_n ?_ | refine bs_i (fun q => ?_) (fun q => ?_) | refine ckA rfl rfl (triK hB2 rfl) ?_ | refine ckA rfl rfl (lenK hB2) ?_ | refine ckA rfl rfl (closedK hB2) ?_ | refine ckA rfl rfl (triK hB1 rfl) ?_ | refine ckA rfl rfl (lenK hB1) ?_ | refine ckA rfl rfl (inK hB1 account month hm hz.symm) ?_ | refine ckA rfl rfl (closedK hB1) ?_ | refine ckz (hsm) ?_ | refine cq (hsm) ?_ | refine pK_i (ldO_own (k := J.length) rfl hk2 rfl) ?_ | refine pK_i (ldO_own (k := J.length) rfl hk1 rfl) ?_ | (refine ckBk rfl rfl (by rw [List.append_nil]; exact hcA) (SubL.refl _) ?_; rintro r J2 ⟨rfl, hB2, hKp⟩; have hk2 := hKp.own hk1 (by omega) (by omega)) | refine eqk rfl ?_ | refine ffin _ rfl rfl hS (Sub.refl _) rfl ⟨?_, rfl, rfl⟩)
      all_goals first
        | (exfalso; omega)
        | (conv => whnf
           exact fnext (α := BmS) ⟨i + 1, J2, f, E, c2⟩ ⟨by simp only; omega, by simp only; omega, (by have := (List.getElem?_eq_some_iff.1 hk2).1; simp only; omega), hB2⟩ (by simp only; omega) (fstep_sub ⟨Sub.int (by first | rfl | omega | (refine Int.sub_eq_zero.mp ?_; simp (disch := ((try unfold I64); omega)) only [wi64_id, td]; omega)), Sub.refl _, Sub.refl _, Sub.refl _, Sub.refl _, trivial⟩))
    · have hc3 : c2 = cl := by rw [hc2, clN, if_neg (by rw [← hn]; exact h0)]
      have hno : ¬ (1 ≤ x.mo ∧ x.mo ≤ 119988 ∧ cl < x.mo) := fun h => h0 (hcl0.2 h)
      clear hc2
      subst hc3
      repeat' first | with_reducible refine fzD_ite (fun q => ?_) (fun q => ?_) | ((try conv => whnf); first | refine bs_t (decide_eq_true hw) ?_ | refine bs_f (decide_eq_false h0) ?_ | refine bs_t (decide_eq_true rfl) ?_ | refine bs_d (fun q => ?_) (fun q => ?_) | refine bs_n ?_ | refine bs_i (fun q => ?_) (fun q => ?_) | refine ckA rfl rfl (triK hB2 rfl) ?_ | refine ckA rfl rfl (lenK hB2) ?_ | refine ckA rfl rfl (closedK hB2) ?_ | refine ckA rfl rfl (triK hB1 rfl) ?_ | refine ckA rfl rfl (lenK hB1) ?_ | refine ckA rfl rfl (inK hB1 account month hm hz.symm) ?_ | refine ckA rfl rfl (closedK hB1) ?_ | refine ckz (hsm) ?_ | refine cq (hsm) ?_ | refine pK_i (ldO_own (k := J.length) rfl hk2 rfl) ?_ | refine pK_i (ldO_own (k := J.length) rfl hk1 rfl) ?_ | (refine ckBk rfl rfl (by rw [List.append_nil]; exact hcA) (SubL.refl _) ?_; rintro r J2 ⟨rfl, hB2, hKp⟩; have hk2 := hKp.own hk1 (by omega) (by omega)) | refine eqk rfl ?_ | refine ffin _ rfl rfl hS (Sub.refl _) rfl ⟨?_, rfl, rfl⟩)
      all_goals first
        | (exfalso; omega)
        | (conv => whnf
           exact fnext (α := BmS) ⟨i + 1, J2, f, E, c2⟩ ⟨by simp only; omega, by simp only; omega, (by have := (List.getElem?_eq_some_iff.1 hk2).1; simp only; omega), hB2⟩ (by simp only; omega) (fstep_sub ⟨Sub.int (by first | rfl | omega | (refine Int.sub_eq_zero.mp ?_; simp (disch := ((try unfold I64); omega)) only [wi64_id, td]; omega)), Sub.refl _, Sub.refl _, Sub.refl _, Sub.refl _, trivial⟩))
  · have hpa := postA (tk := tk) hB1 x.e hx.e (by omega)
    obtain ⟨n, hn⟩ : ∃ n, n = postN stdB f cl x.e := ⟨_, rfl⟩
    obtain ⟨num, hnum⟩ : ∃ n, n = numP stdB f cl E x.e := ⟨_, rfl⟩
    obtain ⟨f2, hf2⟩ : ∃ n, n = nextF stdB f cl x.e := ⟨_, rfl⟩
    obtain ⟨E2, hE2⟩ : ∃ n, n = nextE stdB f cl E x.e := ⟨_, rfl⟩
    have hin : month ≤ cl → inV f2 account month = z := by
      intro hle
      rw [hz, hf2, nextF]
      split
      · rename_i h
        refine in_stay f x.e ?_ account hle
        intro hc
        have hb : onN stdB x.e ≠ 0 ∨ ofI x.e.day ≤ cl := .inr hc
        rw [postN, if_pos hb] at h
        split at h <;> first | contradiction | omega
      · rfl
    rw [← hn, ← hnum, ← hf2, ← hE2] at hpa
    have hlE := nextE_len stdB f cl E x.e
    rw [← hE2] at hlE
    by_cases h0 : n = 0
    · have hE3 : E2.length = E.length + 1 := by rw [hE2, nextE, if_pos (by rw [← hn]; exact h0)]; simp
      have hnu : num = ((E.length + 1 : Nat) : Int) := by rw [hnum, numP, if_pos (by rw [← hn]; exact h0)]
      have w1 : IntKind.wrap .i64 ((E.length : Int) + 1) = ((E.length + 1 : Nat) : Int) := by rw [wi64_id (by unfold I64; omega)]; omega
      have w2 : IntKind.wrap .u64 (IntKind.wrap .i64 ((E.length : Int) + 1)) = ((E.length + 1 : Nat) : Int) := by rw [w1, wu64_id (by unfold U64; omega)]
      clear hn hnum hf2 hE2
      subst h0; subst hnu
      repeat' first | with_reducible refine fzD_ite (fun q => ?_) (fun q => ?_) | ((try conv => whnf); first | refine bs_f (decide_eq_false hw) ?_ | refine bs_t (decide_eq_true rfl) ?_ | refine bs_t (decide_eq_true ((congrArg Int.ofNat hE3).trans w1.symm)) ?_ | refine bs_t (decide_eq_true w2.symm) ?_ | refine bs_d (fun q => ?_) (fun q => ?_) | refine bs_n ?_ | refine bs_i (fun q => ?_) (fun q => ?_) | refine ckA rfl rfl (triK hB2 rfl) ?_ | refine ckA rfl rfl (lenK hB2) ?_ | refine ckA rfl rfl (inK hB2 account month hm (hin (by assumption))) ?_ | refine ckA rfl rfl (triK hB1 rfl) ?_ | refine ckA rfl rfl (lenK hB1) ?_ | refine ckA rfl rfl (inK hB1 account month hm hz.symm) ?_ | refine ckA rfl rfl (closedK hB1) ?_ | refine ckz (hsm) ?_ | refine cq (hsm) ?_ | refine pK_i (ldO_own (k := J.length) rfl hk1 rfl) ?_ | (refine ckBk rfl rfl (by rw [List.append_nil]; exact hpa) (SubL.refl _) ?_; rintro r J2 ⟨rfl, hB2, hKp⟩; have hk2 := hKp.own hk1 (by omega) (by omega)) | refine eqk rfl ?_ | refine ffin _ rfl rfl hS (Sub.refl _) rfl ⟨?_, rfl, rfl⟩)
      all_goals first
        | (exfalso; omega)
        | (conv => whnf
           exact fnext (α := BmS) ⟨i + 1, J2, f2, E2, cl⟩ ⟨by simp only; omega, by simp only; omega, (by have := (List.getElem?_eq_some_iff.1 hk2).1; simp only; omega), hB2⟩ (by simp only; omega) (fstep_sub ⟨Sub.int (by first | rfl | omega | (refine Int.sub_eq_zero.mp ?_; simp (disch := ((try unfold I64); omega)) only [wi64_id, td]; omega)), Sub.refl _, Sub.refl _, Sub.refl _, Sub.refl _, trivial⟩))
    · have hE3 : E2 = E := by rw [hE2, nextE, if_neg (by rw [← hn]; exact h0)]
      have hf3 : f2 = f := by rw [hf2, nextF, if_neg (by rw [← hn]; exact h0)]
      have hnu : num = 0 := by rw [hnum, numP, if_neg (by rw [← hn]; exact h0)]
      clear hn hnum hf2 hE2
      subst hE3; subst hf3; subst hnu
      repeat' first | with_reducible refine fzD_ite (fun q => ?_) (fun q => ?_) | ((try conv => whnf); first | refine bs_f (decide_eq_false hw) ?_ | refine bs_f (decide_eq_false h0) ?_ | refine bs_t (decide_eq_true rfl) ?_ | refine bs_d (fun q => ?_) (fun q => ?_) | refine bs_n ?_ | refine bs_i (fun q => ?_) (fun q => ?_) | refine ckA rfl rfl (triK hB2 rfl) ?_ | refine ckA rfl rfl (lenK hB2) ?_ | refine ckA rfl rfl (inK hB2 account month hm hz.symm) ?_ | refine ckA rfl rfl (triK hB1 rfl) ?_ | refine ckA rfl rfl (lenK hB1) ?_ | refine ckA rfl rfl (inK hB1 account month hm hz.symm) ?_ | refine ckA rfl rfl (closedK hB1) ?_ | refine ckz (hsm) ?_ | refine cq (hsm) ?_ | refine pK_i (ldO_own (k := J.length) rfl hk1 rfl) ?_ | (refine ckBk rfl rfl (by rw [List.append_nil]; exact hpa) (SubL.refl _) ?_; rintro r J2 ⟨rfl, hB2, hKp⟩; have hk2 := hKp.own hk1 (by omega) (by omega)) | refine eqk rfl ?_ | refine ffin _ rfl rfl hS (Sub.refl _) rfl ⟨?_, rfl, rfl⟩)
      all_goals first
        | (exfalso; omega)
        | (conv => whnf
           exact fnext (α := BmS) ⟨i + 1, J2, f2, E2, cl⟩ ⟨by simp only; omega, by simp only; omega, (by have := (List.getElem?_eq_some_iff.1 hk2).1; simp only; omega), hB2⟩ (by simp only; omega) (fstep_sub ⟨Sub.int (by first | rfl | omega | (refine Int.sub_eq_zero.mp ?_; simp (disch := ((try unfold I64); omega)) only [wi64_id, td]; omega)), Sub.refl _, Sub.refl _, Sub.refl _, Sub.refl _, trivial⟩))
end Go.KL.YtkojphmejddhiaaDoor.J

/- BooksBack: the plain law -/
set_option linter.unusedVariables false
set_option linter.unusedSimpArgs false
set_option linter.unusedSectionVars false
set_option maxRecDepth 4000
namespace Go.KL.YtkojphmejddhiaaDoor.J
open Go Go.KL Go.RowKit Go.Proofs Go.KL.YtkojphmejddhiaaDoor

theorem onL_neg (ql : AcL) : ∀ L : List Ln, onL ql (L.map neg) = onL ql L
  | [] => rfl
  | x :: r => by
    have e : (neg x).acc = x.acc := rfl
    rw [List.map_cons, onL, onL, e, onL_neg ql r]
theorem sum_neg : ∀ L : List Ln, ((L.map neg).map Ln.amt).sum = -(L.map Ln.amt).sum
  | [] => rfl
  | x :: r => by
    have e : (neg x).amt = -x.amt := rfl
    simp only [List.map_cons, List.sum_cons, sum_neg r, e]; omega
theorem neg_may {x : Ln} (h : x.may) : (neg x).may := by
  unfold Ln.may at h ⊢
  have e : (neg x).acc = x.acc := rfl
  have e2 : (neg x).amt = -x.amt := rfl
  rw [e, e2]; omega
theorem chk_of {e : Ent} (h1 : e.hd) (h2 : ∀ x ∈ e.L, x.may) (h3 : (e.L.map Ln.amt).sum = 0) : e.chk = 0 := by
  unfold Ent.chk
  rw [if_pos ⟨h1, h2⟩, if_pos h3]
/-- a reversal may stand where its entry may -/
theorem rev_on {ql : AcL} {e : Ent} {day : Int} (hon : onN ql e = 0) (hrv : revN e day = 0) : revE e day = ⟨day, e.kind, e.src, e.L.map neg⟩ ∧ onN ql (revE e day) = 0 ∧ 1 ≤ day := by
  have hc : e.chk = 0 := Classical.byContradiction fun h => by rw [revN, if_neg h] at hrv; exact h hrv
  rw [revN, if_pos hc] at hrv
  have hd : 1 ≤ day ∧ day ≤ 3652059 := Classical.byContradiction fun h => by rw [if_neg h] at hrv; cases hrv
  obtain ⟨h1, h2, h3⟩ := Ent.chk_0 hc
  have he : revE e day = ⟨day, e.kind, e.src, e.L.map neg⟩ := if_pos ⟨hc, hd⟩
  rw [onN, if_pos hc] at hon
  refine ⟨he, ?_, hd.1⟩
  rw [he]
  have hk : (⟨day, e.kind, e.src, e.L.map neg⟩ : Ent).chk = 0 := by
    refine chk_of ?_ ?_ ?_
    · unfold Ent.hd at h1 ⊢
      simp only [List.length_map]
      exact ⟨hd.1, hd.2, h1.2.2⟩
    · intro x hx
      obtain ⟨y, hy, rfl⟩ := List.mem_map.1 hx
      exact neg_may (h2 y hy)
    · show ((e.L.map neg).map Ln.amt).sum = 0
      rw [sum_neg, h3]; rfl
  rw [onN, if_pos hk]
  show onL ql (e.L.map neg) = 0
  rw [onL_neg]; exact hon
theorem postN_on {ql : AcL} {f : Slot → Option Int} {cl : Int} {e : Ent} (h : postN ql f cl e = 0) : onN ql e = 0 := by
  unfold postN at h
  split at h
  · rename_i hb
    by_cases h1 : onN ql e ≠ 0
    · rw [if_pos h1] at h; exact absurd h h1
    · exact Classical.byContradiction h1
  · rename_i hb
    exact Classical.byContradiction fun hh => hb (.inl hh)
theorem postN_may {ql : AcL} {f : Slot → Option Int} {e : Ent} (h : onN ql e = 0) : postN ql f 0 e = 0 ∨ postN ql f 0 e = 211 := by
  unfold postN
  have := of_bd e.day
  rw [if_neg (by rw [h]; simp; omega)]
  split
  · exact .inl rfl
  · exact .inr rfl
theorem rev_R {e : Ent} (hR : e.R) {day : Int} (hd : I64 day) : (revE e day).R := by
  unfold revE
  split
  · rename_i h
    obtain ⟨_, h2, _⟩ := Ent.chk_0 h.1
    refine ⟨hd, hR.kind, hR.src, fun x hx => ?_⟩
    obtain ⟨y, hy, rfl⟩ := List.mem_map.1 hx
    have h3 := hR.L y hy
    have h4 := h2 y hy
    refine ⟨h3.acc, h3.cus, h3.con, ?_⟩
    unfold Ln.may at h4
    show I64 (-y.amt)
    unfold I64; omega
  · exact ⟨by simp [zeroE, I64], by simp [zeroE], by simp [zeroE, U64], by simp [zeroE]⟩
/-- the sums of a line, by customer and by contract -/
def waV (f : Slot → Option Int) (x : Ln) : List Int := [(f (x.acc, 1, x.cus)).getD 0, (f (x.acc, 2, x.con)).getD 0]
def waL (f : Slot → Option Int) (L : List Ln) : List Int := L.flatMap (waV f)
theorem waL_len (f : Slot → Option Int) : ∀ L : List Ln, (waL f L).length = 2 * L.length
  | [] => rfl
  | x :: r => by
    have := waL_len f r
    unfold waL at this ⊢
    rw [List.flatMap_cons, List.length_append, this]; simp [waV]; omega
theorem waL_snoc (f : Slot → Option Int) {L : List Ln} {i : Nat} (hi : i < L.length) : waL f (L.take (i + 1)) = waL f (L.take i) ++ waV f L[i]! := by
  rw [take_snA hi]; simp [waL]
theorem waL_at (f : Slot → Option Int) : ∀ (L : List Ln) (i : Nat), i < L.length → (waL f L)[2 * i]? = some ((f ((L[i]!).acc, 1, (L[i]!).cus)).getD 0) ∧ (waL f L)[2 * i + 1]? = some ((f ((L[i]!).acc, 2, (L[i]!).con)).getD 0)
  | [], i, h => by simp at h
  | x :: r, 0, h => by simp [waL, waV]
  | x :: r, i + 1, h => by
    have := waL_at f r i (by simpa using h)
    unfold waL at this ⊢
    rw [List.flatMap_cons, List.getElem?_append_right (by simp [waV]; omega), List.getElem?_append_right (by simp [waV]; omega)]
    rw [show 2 * (i + 1) - (waV f x).length = 2 * i by simp [waV]; omega, show 2 * (i + 1) + 1 - (waV f x).length = 2 * i + 1 by simp [waV]; omega]
    simpa using this
theorem tri_same {ql : AcL} {f g : Slot → Option Int} (h : ∀ c, ownV f c = ownV g c) : triL ql f = triL ql g := by
  unfold triL
  have h1 : (fun a : Go.KL.YtkojphmejddhiaaDoor.Ac => decide (ownV f a.code ≠ 0)) = fun a => decide (ownV g a.code ≠ 0) := funext fun a => by rw [h]
  have h2 : baV f = baV g := funext fun a => by unfold baV; rw [h]
  rw [h1, h2]
end Go.KL.YtkojphmejddhiaaDoor.J

/- BooksBack -/
set_option linter.unusedVariables false
set_option linter.unusedSimpArgs false
set_option linter.unusedSectionVars false
set_option maxRecDepth 4000
namespace Go.KL.YtkojphmejddhiaaDoor.J
open Go Go.KL Go.RowKit Go.Proofs Go.KL.YtkojphmejddhiaaDoor

theorem c5 : cFun E0.P 5 = some ⟨172, [(6, none)], .seq (.rg [⟨some 4, none, .box (.t 1) 32⟩, ⟨some 6, none, .mv (.k (.bool false))⟩]) (.seq (.seq (.rg [⟨some 19, none, .mv (.t 0)⟩, ⟨some 20, none, .call 8 [.t 19]⟩, ⟨some 21, none, .mv (.t 20)⟩, ⟨some 22, some (21, false), .fa 3 (.t 4)⟩, ⟨some 23, some (21, false), .ld 1 false (.t 22)⟩, ⟨some 24, some (21, false), .len 1 (.t 23)⟩, ⟨some 25, some (21, false), .bin .gtr .leaf (.t 24) (.k (.int .i64 20))⟩, ⟨some 26, none, .pick (.t 21) (.k (.bool true)) (.t 25)⟩]) (.cond (.t 26) (.seq (.rg [⟨some 27, none, .call 9 []⟩, ⟨some 6, none, .mv (.t 27)⟩]) .ret) .skip)) (.seq (.rg [⟨some 28, none, .call 10 []⟩, ⟨some 29, none, .call 11 [.t 28]⟩, ⟨some 7, none, .mv (.t 29)⟩]) (.seq (.seq (.rg [⟨some 8, none, .mv (.k (.int .i64 0))⟩]) (.block 0 (.loop (.seq (.seq (.rg [⟨some 30, none, .mv (.t 8)⟩, ⟨some 31, none, .mv (.t 0)⟩, ⟨some 32, none, .len 1 (.t 31)⟩, ⟨some 33, none, .bin .lss .leaf (.t 30) (.t 32)⟩]) (.cond (.t 33) .skip (.exit 0))) (.seq (.block 1 (.rg [⟨some 36, none, .mv (.t 7)⟩, ⟨some 37, none, .mv (.t 0)⟩, ⟨some 38, none, .mv (.t 8)⟩, ⟨some 39, none, .ia 11 (.t 37) (.t 38)⟩, ⟨some 40, none, .fa 1 (.t 39)⟩, ⟨some 41, none, .ld 4 true (.t 40)⟩, ⟨some 42, none, .call 18 [.t 36, .t 41]⟩])) (.rg [⟨some 34, none, .mv (.t 8)⟩, ⟨some 35, none, .bin .add .leaf (.t 34) (.k (.int .i64 1))⟩, ⟨some 8, none, .mv (.t 35)⟩])))))) (.seq (.rg [⟨some 44, none, .ld 4 true (.t 4)⟩, ⟨some 45, none, .mv (.t 2)⟩, ⟨some 46, none, .call 24 [.t 44, .t 45]⟩, ⟨some 43, none, .mv (.t 46)⟩, ⟨some 47, none, .ext 0 (.t 43)⟩, ⟨some 48, none, .ext 1 (.t 43)⟩, ⟨some 9, none, .alloc [.int .i64 0, .int .u8 0, .int .u64 0, .nilsl] 32⟩, ⟨none, none, .st 4 (.t 9) (.t 47)⟩, ⟨some 10, none, .mv (.t 48)⟩]) (.seq (.rg [⟨some 49, none, .mv (.t 7)⟩, ⟨some 50, none, .call 12 [.t 49]⟩, ⟨some 11, none, .mv (.t 50)⟩]) (.seq (.rg [⟨some 12, none, .mv (.k .nilsl)⟩]) (.seq (.seq (.rg [⟨some 13, none, .mv (.k (.int .i64 0))⟩]) (.block 2 (.loop (.seq (.seq (.rg [⟨some 51, none, .mv (.t 13)⟩, ⟨some 52, none, .fa 3 (.t 4)⟩, ⟨some 53, none, .ld 1 false (.t 52)⟩, ⟨some 54, none, .len 1 (.t 53)⟩, ⟨some 55, none, .bin .lss .leaf (.t 51) (.t 54)⟩]) (.cond (.t 55) .skip (.exit 2))) (.seq (.block 3 (.rd [(⟨some 58, none, .mv (.t 12)⟩, none), (⟨some 59, none, .mv (.t 7)⟩, none), (⟨some 60, none, .fa 3 (.t 4)⟩, none), (⟨some 61, none, .ld 1 false (.t 60)⟩, none), (⟨some 62, none, .mv (.t 13)⟩, none), (⟨some 63, none, .ia 4 (.t 61) (.t 62)⟩, none), (⟨some 64, none, .fa 0 (.t 63)⟩, none), (⟨some 65, none, .ld 1 false (.t 64)⟩, none), (⟨some 66, none, .fa 3 (.t 4)⟩, none), (⟨some 67, none, .ld 1 false (.t 66)⟩, none), (⟨some 68, none, .mv (.t 13)⟩, none), (⟨some 69, none, .ia 4 (.t 67) (.t 68)⟩, none), (⟨some 70, none, .fa 1 (.t 69)⟩, none), (⟨some 71, none, .ld 1 false (.t 70)⟩, none), (⟨some 72, none, .call 25 [.t 59, .t 65, .t 71]⟩, none), (⟨some 73, none, .mv (.t 7)⟩, none), (⟨some 74, none, .fa 3 (.t 4)⟩, none), (⟨some 75, none, .ld 1 false (.t 74)⟩, none), (⟨some 76, none, .mv (.t 13)⟩, none), (⟨some 77, none, .ia 4 (.t 75) (.t 76)⟩, none), (⟨some 78, none, .fa 0 (.t 77)⟩, none), (⟨some 79, none, .ld 1 false (.t 78)⟩, none), (⟨some 80, none, .fa 3 (.t 4)⟩, none), (⟨some 81, none, .ld 1 false (.t 80)⟩, none), (⟨some 82, none, .mv (.t 13)⟩, none), (⟨some 83, none, .ia 4 (.t 81) (.t 82)⟩, none), (⟨some 84, none, .fa 2 (.t 83)⟩, none), (⟨some 85, none, .ld 1 false (.t 84)⟩, none), (⟨some 86, none, .call 26 [.t 73, .t 79, .t 85]⟩, some []), (⟨some 87, none, .buildS 2 1 [.int .i64 0] [(0, .t 72), (1, .t 86)] 2⟩, none), (⟨some 88, none, .app 48 2 1 8 [.int .i64 0] (.t 58) (.t 87)⟩, some []), (⟨some 12, none, .mv (.t 88)⟩, none)])) (.rg [⟨some 56, none, .mv (.t 13)⟩, ⟨some 57, none, .bin .add .leaf (.t 56) (.k (.int .i64 1))⟩, ⟨some 13, none, .mv (.t 57)⟩])))))) (.seq (.rg [⟨some 90, none, .mv (.t 7)⟩, ⟨some 91, none, .ld 4 true (.t 4)⟩, ⟨some 92, none, .call 18 [.t 90, .t 91]⟩, ⟨some 89, none, .mv (.t 92)⟩, ⟨some 93, none, .ext 0 (.t 89)⟩, ⟨some 94, none, .ext 1 (.t 89)⟩, ⟨some 14, none, .mv (.t 93)⟩, ⟨some 15, none, .mv (.t 94)⟩]) (.seq (.seq (.rg [⟨some 95, none, .mv (.t 10)⟩, ⟨some 96, none, .bin .neq .leaf (.t 95) (.k (.int .i64 0))⟩, ⟨some 97, none, .mv (.t 96)⟩, ⟨some 98, some (97, false), .mv (.t 15)⟩, ⟨some 99, some (97, false), .bin .neq .leaf (.t 98) (.k (.int .i64 0))⟩, ⟨some 100, none, .pick (.t 97) (.k (.bool true)) (.t 99)⟩]) (.cond (.t 100) (.seq (.rg [⟨some 101, none, .call 9 []⟩, ⟨some 6, none, .mv (.t 101)⟩]) .ret) .skip)) (.seq (.seq (.rg [⟨some 103, none, .mv (.t 7)⟩, ⟨some 104, none, .ld 4 true (.t 9)⟩, ⟨some 105, none, .call 18 [.t 103, .t 104]⟩, ⟨some 102, none, .mv (.t 105)⟩, ⟨some 106, none, .ext 0 (.t 102)⟩, ⟨some 107, none, .ext 1 (.t 102)⟩, ⟨some 16, none, .mv (.t 106)⟩, ⟨some 17, none, .mv (.t 107)⟩]) (.seq (.rg [⟨some 108, none, .mv (.t 17)⟩, ⟨some 109, none, .bin .neq .leaf (.t 108) (.k (.int .i64 0))⟩]) (.cond (.t 109) (.seq (.rg [⟨some 110, none, .mv (.t 17)⟩, ⟨some 111, none, .bin .eql .leaf (.t 110) (.k (.int .i64 211))⟩, ⟨some 112, none, .mv (.t 111)⟩, ⟨some 113, some (112, true), .call 9 []⟩, ⟨some 114, none, .pick (.t 112) (.t 113) (.k (.bool false))⟩, ⟨some 6, none, .mv (.t 114)⟩]) .ret) .skip))) (.seq (.seq (.rg [⟨some 18, none, .mv (.k (.int .i64 0))⟩]) (.block 4 (.loop (.seq (.seq (.rg [⟨some 115, none, .mv (.t 18)⟩, ⟨some 116, none, .fa 3 (.t 4)⟩, ⟨some 117, none, .ld 1 false (.t 116)⟩, ⟨some 118, none, .len 1 (.t 117)⟩, ⟨some 119, none, .bin .lss .leaf (.t 115) (.t 118)⟩]) (.cond (.t 119) .skip (.exit 4))) (.seq (.block 5 (.seq (.rd [(⟨some 122, none, .mv (.t 7)⟩, none), (⟨some 123, none, .fa 3 (.t 4)⟩, none), (⟨some 124, none, .ld 1 false (.t 123)⟩, none), (⟨some 125, none, .mv (.t 18)⟩, none), (⟨some 126, none, .ia 4 (.t 124) (.t 125)⟩, none), (⟨some 127, none, .fa 0 (.t 126)⟩, none), (⟨some 128, none, .ld 1 false (.t 127)⟩, none), (⟨some 129, none, .fa 3 (.t 4)⟩, none), (⟨some 130, none, .ld 1 false (.t 129)⟩, none), (⟨some 131, none, .mv (.t 18)⟩, none), (⟨some 132, none, .ia 4 (.t 130) (.t 131)⟩, none), (⟨some 133, none, .fa 1 (.t 132)⟩, none), (⟨some 134, none, .ld 1 false (.t 133)⟩, none), (⟨some 135, none, .call 25 [.t 122, .t 128, .t 134]⟩, none), (⟨some 136, none, .mv (.t 12)⟩, none), (⟨some 137, none, .mv (.t 18)⟩, none), (⟨some 138, none, .bin .mul .leaf (.k (.int .i64 2)) (.t 137)⟩, none), (⟨some 139, none, .ia 1 (.t 136) (.t 138)⟩, none), (⟨some 140, none, .ld 1 false (.t 139)⟩, none), (⟨some 141, none, .bin .neq .leaf (.t 135) (.t 140)⟩, none), (⟨some 142, none, .mv (.t 141)⟩, none), (⟨some 143, some (142, false), .mv (.t 7)⟩, none), (⟨some 144, some (142, false), .fa 3 (.t 4)⟩, none), (⟨some 145, some (142, false), .ld 1 false (.t 144)⟩, none), (⟨some 146, some (142, false), .mv (.t 18)⟩, none), (⟨some 147, some (142, false), .ia 4 (.t 145) (.t 146)⟩, none), (⟨some 148, some (142, false), .fa 0 (.t 147)⟩, none), (⟨some 149, some (142, false), .ld 1 false (.t 148)⟩, none), (⟨some 150, some (142, false), .fa 3 (.t 4)⟩, none), (⟨some 151, some (142, false), .ld 1 false (.t 150)⟩, none), (⟨some 152, some (142, false), .mv (.t 18)⟩, none), (⟨some 153, some (142, false), .ia 4 (.t 151) (.t 152)⟩, none), (⟨some 154, some (142, false), .fa 2 (.t 153)⟩, none), (⟨some 155, some (142, false), .ld 1 false (.t 154)⟩, none), (⟨some 156, some (142, false), .call 26 [.t 143, .t 149, .t 155]⟩, none), (⟨some 157, some (142, false), .mv (.t 12)⟩, none), (⟨some 158, some (142, false), .mv (.t 18)⟩, none), (⟨some 159, some (142, false), .bin .mul .leaf (.k (.int .i64 2)) (.t 158)⟩, none), (⟨some 160, some (142, false), .bin .add .leaf (.t 159) (.k (.int .i64 1))⟩, none), (⟨some 161, some (142, false), .ia 1 (.t 157) (.t 160)⟩, none), (⟨some 162, some (142, false), .ld 1 false (.t 161)⟩, none), (⟨some 163, some (142, false), .bin .neq .leaf (.t 156) (.t 162)⟩, none), (⟨some 164, none, .pick (.t 142) (.k (.bool true)) (.t 163)⟩, none)]) (.cond (.t 164) (.seq (.rg [⟨some 6, none, .mv (.k (.bool false))⟩]) .ret) .skip))) (.rg [⟨some 120, none, .mv (.t 18)⟩, ⟨some 121, none, .bin .add .leaf (.t 120) (.k (.int .i64 1))⟩, ⟨some 18, none, .mv (.t 121)⟩])))))) (.seq (.rg [⟨some 165, none, .mv (.t 7)⟩, ⟨some 166, none, .call 12 [.t 165]⟩, ⟨some 167, none, .mv (.t 11)⟩, ⟨some 168, none, .call 17 [.t 166, .t 167]⟩, ⟨some 169, none, .mv (.t 168)⟩, ⟨some 170, some (169, true), .call 9 []⟩, ⟨some 171, none, .pick (.t 169) (.t 170) (.k (.bool false))⟩, ⟨some 6, none, .mv (.t 171)⟩]) .ret))))))))))))⟩ := by kernel_rfl

/-- as ckBk, where more stays than what lies behind the walk -/
theorem ckBk1 {E : Env} {n0 m0 lo : Nat} {S J : List O} {T TK : Tks} {f : FuncId} {ds ds' : List D} {K : FD → List O → List O → Tks → Tks → Prop} {Q : D → List O → Prop} (hlo : n0 ≤ lo) (hn : S.length = n0) (hm : T.length = m0)
    (h : ACalls E f ds' (S ++ J) (T ++ TK) (fun r X' tk' => Q r X' ∧ ((∀ id, id < lo → X'[id]? = (S ++ J)[id]?) ∧ lo ≤ X'.length) ∧ tk' = T ++ TK)) (hs : SubL ds ds')
    (hk : ∀ r J', Q r (S ++ J') → fzD r fun r => K (.d r) S J' T TK) : CK E n0 m0 f ds S J T TK K :=
  ckBk hn hm (h.mono fun r X' tk' h => ⟨h.1, ⟨fun id hi => h.2.1.1 id (by omega), by have := h.2.1.2; omega⟩, h.2.2⟩) hs hk
theorem bk_new_at {S : List O} {o : O} {ql : AcL} {n : Nat} (hn : S.length = n) (hch : Ch (look ql) o) (hok : OkQ ql) (hl : ql.length < 1000000) :
    BkR (S ++ [o, .arr [.map n], .map kSl (MG.entKv sD []) 0, .arr [.po (n + 1) 0, .nilsl, .map (n + 2), .int .i64 0]]) n (n + 3) (n + 1) n (n + 2) ql noneF [] 0 := by subst hn; exact bk_new hch hok hl
theorem Keeps.low {lo bid mid : Nat} {S J J' : List O} {k : Nat} (h : Keeps lo bid mid (S ++ J) (S ++ J')) (hk : S.length + k < lo) : J'[k]? = J[k]? := by
  have := h.lo _ hk
  rwa [lk, lk] at this
structure BbS where
  i : Nat
  J : List O
  f : Slot → Option Int
  E : List Ent
set_option maxHeartbeats 8000000 in
theorem booksBack (l : List At) (hR : ∀ x ∈ l, x.R) (hlm : l.length ≤ maxLen) (e : Ent) (hRe : e.R) (day : Int) (hday : I64 day) : Pure 5 [.sl (ats l), e.d, .int .i64 day] (.bool true) := by
  intro S tk
  have hla := ats_len l
  have hle := lns_len e.L
  have hgr := great l hlm
  by_cases hbig : greatB l = true ∨ (e.L.length : Int) > 20
  · cases hg : greatB l with
    | true =>
      rw [hg] at hgr
      refine ACalls.fgo c5 rfl fun hS => ?_
      repeat' first | with_reducible refine fzD_ite (fun q => ?_) (fun q => ?_) | ((try conv => whnf); first | refine bs_d (fun q => ?_) (fun q => ?_) | refine bs_n ?_ | refine bs_i (fun q => ?_) (fun q => ?_) | refine ckz (hgr) ?_ | refine cq (hgr) ?_ | refine ckz (head_b) ?_ | refine cq (head_b) ?_ | refine eqk rfl ?_ | refine ffin _ rfl rfl hS (Sub.refl _) rfl ⟨?_, rfl, rfl⟩)
      all_goals rfl
    | false =>
      rw [hg] at hgr hbig
      have h8 : (e.L.length : Int) > 20 := by simpa using hbig
      refine ACalls.fgo c5 rfl fun hS => ?_
      repeat' first | with_reducible refine fzD_ite (fun q => ?_) (fun q => ?_) | ((try conv => whnf); first | refine bs_t (decide_eq_true (show ((lns e.L).length : Int) > 20 by omega)) ?_ | refine bs_d (fun q => ?_) (fun q => ?_) | refine bs_n ?_ | refine bs_i (fun q => ?_) (fun q => ?_) | refine ckz (hgr) ?_ | refine cq (hgr) ?_ | refine ckz (head_b) ?_ | refine cq (head_b) ?_ | refine eqk rfl ?_ | refine ffin _ rfl rfl hS (Sub.refl _) rfl ⟨?_, rfl, rfl⟩)
      all_goals rfl
  have hg : greatB l = false := by cases h : greatB l with | true => exact absurd (.inl h) hbig | false => rfl
  rw [hg] at hgr
  have h20 : ¬ (e.L.length : Int) > 20 := fun h => hbig (.inr h)
  have h16 : l.length ≤ 16 := by
    unfold greatB at hg
    simp only [Bool.or_eq_false_iff, decide_eq_false_iff_not] at hg
    omega
  have hrv := Reverse e hRe day
  unfold revS at hrv
  have hrR := rev_R hRe hday
  obtain ⟨rn, hrn⟩ : ∃ n, n = revN e day := ⟨_, rfl⟩
  obtain ⟨r0, hr0⟩ : ∃ n, n = revE e day := ⟨_, rfl⟩
  rw [← hrn, ← hr0] at hrv
  rw [← hr0] at hrR
  refine ACalls.fgoC c5 rfl [10] rfl fun hS => ?_
  repeat' first | with_reducible refine fzD_ite (fun q => ?_) (fun q => ?_) | ((try conv => whnf); first | refine bs_f (decide_eq_false (show ¬ ((lns e.L).length : Int) > 20 by omega)) ?_ | refine bs_d (fun q => ?_) (fun q => ?_) | refine bs_n ?_ | refine bs_i (fun q => ?_) (fun q => ?_) | refine ckz (hgr) ?_ | refine cq (hgr) ?_ | (refine ckNE (G := fun r o => r = .po (S.length + 1 + 1) 0 ∧ Ch (look stdB) o) (Jn := fun o => [o, .arr [.map (S.length + 1)]]) (ds' := []) rfl rfl (std_atB (by simp)) .nil ?_; rintro r o ⟨rfl, hch⟩) | (refine ckN (d := .po (S.length + 3 + 1) 0) (Jn := [.map kSl (MG.entKv sD []) 0, .arr [.po (S.length + 1 + 1) 0, .nilsl, .map (S.length + 3), .int .i64 0]]) rfl rfl (new_at (by simp)) ?_; have hB0 := bk_new_at (S := S ++ [.arr (entC e)]) (n := S.length + 1) (by simp) hch stdB_ok.1 stdB_ok.2; rw [List.append_assoc] at hB0) | refine eqk rfl ?_ | refine ffin _ rfl rfl hS (Sub.refl _) rfl ⟨?_, rfl, rfl⟩)
  conv => whnf
  refine floop (α := BbS) rfl rfl hS (fun s => s.i ≤ l.length ∧ s.E.length ≤ s.i ∧ s.J[0]? = some (.arr (entC e)) ∧ 5 ≤ s.J.length ∧ BkR (S ++ s.J) (S.length + 1) (S.length + 1 + 3) (S.length + 1 + 1) (S.length + 1) (S.length + 1 + 2) stdB s.f s.E 0) (fun s => l.length - s.i) (fun s => [(8, .d (.int .i64 s.i)), (7, .d (.po (S.length + 1 + 3) 0)), (0, .d (.sl (ats l))), (2, .d (.int .i64 day)), (4, .d (.po (S.length + 0) 0))]) (fun s => s.J) (fun _ => []) ⟨0, _, noneF, []⟩ ⟨Nat.zero_le _, Nat.le_refl _, (by exact rfl), (by exact Nat.le_refl 5), hB0⟩ (fstep_sub ⟨Sub.refl _, Sub.refl _, Sub.refl _, Sub.refl _, Sub.refl _, trivial⟩) ?_
  rintro ⟨i, J, f, E⟩ ⟨hi, hE, hk, hJ5, hB⟩
  simp only at hi hE hk hJ5 hB ⊢
  by_cases hlt : i < l.length
  · have hx := hR _ (mem_at hlt)
    have hix := iaD_at (l := l) (i := i) (n := (i : Int)) rfl hlt
    generalize l[i]! = x at hx hix
    have hpa := postA (tk := tk) hB x.e hx.e (by omega)
    have hlE := nextE_len stdB f 0 E x.e
    repeat' first | with_reducible refine fzD_ite (fun q => ?_) (fun q => ?_) | ((try conv => whnf); first | refine bs_t (decide_eq_true (show (i : Int) < (ats l).length by omega)) ?_ | refine bs_d (fun q => ?_) (fun q => ?_) | refine bs_n ?_ | refine bs_i (fun q => ?_) (fun q => ?_) | refine pK_i hix ?_ | (refine ckBk1 (lo := S.length + 1) (Nat.le_succ _) rfl rfl (by rw [List.append_nil]; exact hpa) (SubL.refl _) ?_; rintro r J2 ⟨rfl, hB2, hKp⟩) | refine eqk rfl ?_ | refine ffin _ rfl rfl hS (Sub.refl _) rfl ⟨?_, rfl, rfl⟩)
    conv => whnf
    exact fnext (α := BbS) ⟨i + 1, J2, nextF stdB f 0 x.e, nextE stdB f 0 E x.e⟩ ⟨by simp only; omega, by simp only; omega, (hKp.low (k := 0) (by omega)).trans hk, by have := hKp.len; simp only [List.length_append] at this ⊢; omega, hB2⟩ (by simp only; omega) (fstep_sub ⟨Sub.int (by first | rfl | omega | (refine Int.sub_eq_zero.mp ?_; simp (disch := ((try unfold I64); omega)) only [wi64_id, td]; omega)), Sub.refl _, Sub.refl _, Sub.refl _, Sub.refl _, trivial⟩)
  repeat' first | with_reducible refine fzD_ite (fun q => ?_) (fun q => ?_) | ((try conv => whnf); first | refine bs_f (decide_eq_false (show ¬ (i : Int) < (ats l).length by omega)) ?_ | refine bs_d (fun q => ?_) (fun q => ?_) | refine bs_n ?_ | refine bs_i (fun q => ?_) (fun q => ?_) | refine eqk rfl ?_ | refine ffin _ rfl rfl hS (Sub.refl _) rfl ⟨?_, rfl, rfl⟩)
  conv => whnf
  refine fcut (α := List O) rfl (fun J1 => J1 = J ++ [.arr (entC r0)]) (fun _ => [(7, .d (.po (S.length + 1 + 3) 0)), (4, .d (.po (S.length + 0) 0)), (9, .d (.po (S.length + J.length) 0)), (10, .d (.int .i64 rn))]) (fun _ => S) (fun J1 => J1) (fun _ => []) (fun _ _ => ⟨rfl, hS⟩) ?_ ?_
  · skip
    repeat' first | with_reducible refine fzD_ite (fun q => ?_) (fun q => ?_) | ((try conv => whnf); first | refine bs_d (fun q => ?_) (fun q => ?_) | refine bs_n ?_ | refine bs_i (fun q => ?_) (fun q => ?_) | refine pK_i (ldO_own (k := 0) rfl hk rfl) ?_ | refine ckz (hrv) ?_ | refine cq (hrv) ?_ | refine fzK_go ?_ | refine fzL_go ?_ | rw [List.getElem?_concat_length] | refine eqk rfl ?_ | refine ffin _ rfl rfl hS (Sub.refl _) rfl ⟨?_, rfl, rfl⟩)
    conv => whnf
    exact fcnext (α := List O) _ rfl rfl (fstep_J (set_last _ _ _) ⟨Sub.refl _, Sub.refl _, Sub.refl _, Sub.refl _, trivial⟩)
  intro J1 hJ1
  have hB1 : BkR (S ++ J1) (S.length + 1) (S.length + 1 + 3) (S.length + 1 + 1) (S.length + 1) (S.length + 1 + 2) stdB f E 0 := hJ1 ▸ hB.own (.arr (entC r0))
  have hk9 : J1[J.length]? = some (.arr (entC r0)) := by rw [hJ1]; exact mem_last _ _
  have hk1 : J1[0]? = some (.arr (entC e)) := by rw [hJ1, List.getElem?_append_left (by omega)]; exact hk
  clear hJ1
  have hscl : ∀ n m, scLL n m (lns e.L) = true := fun n m => scLL_lns n m _
  repeat' first | with_reducible refine fzD_ite (fun q => ?_) (fun q => ?_) | ((try conv => whnf); first | refine bs_d (fun q => ?_) (fun q => ?_) | refine bs_n ?_ | refine bs_i (fun q => ?_) (fun q => ?_) | refine ckA rfl rfl (triK hB1 rfl) ?_ | refine eqk rfl ?_ | refine ffin _ rfl rfl hS (Sub.refl _) rfl ⟨?_, rfl, rfl⟩)
  conv => whnf
  refine floop (α := Nat) rfl rfl hS (fun k => k ≤ e.L.length) (fun k => e.L.length - k) (fun k => [(13, .d (.int .i64 k)), (12, .d (.gsl (i64s (waL f (e.L.take k))) (tk.length + 0))), (7, .d (.po (S.length + 1 + 3) 0)), (4, .d (.po (S.length + 0) 0)), (9, .d (.po (S.length + J.length) 0)), (10, .d (.int .i64 rn)), (11, .d (.sl (bas (triL stdB f))))]) (fun _ => J1) (fun k => [((i64s (waL f (e.L.take k))).length, 2, 1)]) 0 (Nat.zero_le _) (fstep_tok 2 1 (t := 12) (.inl rfl) ⟨Sub.refl _, Sub.refl _, Sub.refl _, Sub.refl _, Sub.refl _, Sub.refl _, Sub.refl _, trivial⟩) ?_
  intro k hkl
  by_cases hkk : k < e.L.length
  · have hiy := iaD_ln (l := e.L) (i := k) (n := (k : Int)) rfl hkk
    have hwl := waL_len f (e.L.take k)
    have hst := waL_snoc f hkk
    generalize e.L[k]! = y at hiy hst
    rw [List.length_take] at hwl
    obtain ⟨p, hp⟩ : ∃ p, p = (f (y.acc, 1, y.cus)).getD 0 := ⟨_, rfl⟩
    obtain ⟨q, hq⟩ : ∃ p, p = (f (y.acc, 2, y.con)).getD 0 := ⟨_, rfl⟩
    have hgl : i64s (waL f (e.L.take k)) ++ [[.int .i64 p], [.int .i64 q]] = i64s (waL f (e.L.take (k + 1))) := by rw [hst, i64s, i64s, List.map_append, hp, hq]; rfl
    repeat' first | with_reducible refine fzD_ite (fun q => ?_) (fun q => ?_) | ((try conv => whnf); first | refine bs_t (decide_eq_true (show (k : Int) < (lns e.L).length by omega)) ?_ | refine bs_d (fun q => ?_) (fun q => ?_) | refine bs_n ?_ | refine bs_i (fun q => ?_) (fun q => ?_) | refine pK_i (ldO_own (k := 0) rfl hk1 rfl) ?_ | refine pK_i hiy ?_ | refine ckA rfl rfl (ofK hB1 _ _ hp.symm) ?_ | refine cqA (ofK hB1 _ _ hp.symm) ?_ | refine ckA rfl rfl (byK hB1 _ _ hq.symm) ?_ | refine cqA (byK hB1 _ _ hq.symm) ?_ | (refine gk_app (t := 0) (src := [[.int .i64 p], [.int .i64 q]]) rfl rfl (by rfl) (by rfl) (by rfl) (by simp) (by rw [i64s_len, hwl]; simp [maxLen]; omega) ?_; rw [hgl]) | refine eqk rfl ?_ | refine ffin _ rfl rfl hS (Sub.refl _) rfl ⟨?_, rfl, rfl⟩)
    conv => whnf
    exact fnext (α := Nat) (k + 1) (by omega) (by omega) (fstep_sub ⟨Sub.int (by first | rfl | omega | (refine Int.sub_eq_zero.mp ?_; simp (disch := ((try unfold I64); omega)) only [wi64_id, td]; omega)), Sub.refl _, Sub.refl _, Sub.refl _, Sub.refl _, Sub.refl _, Sub.refl _, trivial⟩)
  obtain rfl : k = e.L.length := by omega
  rw [List.take_length]
  have htl : (triL stdB f).length < 4611686018427387904 := by have := triL_len stdB f; have := stdB_ok.2; omega
  have hsm := sameB (triL stdB f) (triL stdB f) htl htl
  rw [decide_eq_true rfl] at hsm
  have hpa := fun (tk : Tks) => postA (tk := tk) hB1 e hRe (by omega)
  have hlE := nextE_len stdB f 0 E e
  obtain ⟨n1, hn1⟩ : ∃ n, n = postN stdB f 0 e := ⟨_, rfl⟩
  obtain ⟨num, hnum⟩ : ∃ n, n = numP stdB f 0 E e := ⟨_, rfl⟩
  obtain ⟨f1, hf1⟩ : ∃ n, n = nextF stdB f 0 e := ⟨_, rfl⟩
  obtain ⟨E1, hE1⟩ : ∃ n, n = nextE stdB f 0 E e := ⟨_, rfl⟩
  rw [← hE1] at hlE
  simp only [← hn1, ← hnum, ← hf1, ← hE1] at hpa
  by_cases hr0n : rn = 0
  rotate_left
  · skip
    repeat' first | with_reducible refine fzD_ite (fun q => ?_) (fun q => ?_) | ((try conv => whnf); first | refine bs_f (decide_eq_false (show ¬ (e.L.length : Int) < (lns e.L).length by omega)) ?_ | refine bs_f (decide_eq_false hr0n) ?_ | refine bs_d (fun q => ?_) (fun q => ?_) | refine bs_n ?_ | refine bs_i (fun q => ?_) (fun q => ?_) | refine pK_i (ldO_own (k := 0) rfl hk1 rfl) ?_ | (refine ckBk1 (lo := S.length + 1) (Nat.le_succ _) rfl rfl (hpa _) (SubL.refl _) ?_; rintro r J2 ⟨rfl, hB2, hKp⟩) | refine ckz (head_b) ?_ | refine cq (head_b) ?_ | refine eqk rfl ?_ | refine ffin _ rfl rfl hS (Sub.refl _) rfl ⟨?_, rfl, rfl⟩)
    all_goals rfl
  subst hr0n
  by_cases hn0 : n1 = 0
  rotate_left
  · skip
    repeat' first | with_reducible refine fzD_ite (fun q => ?_) (fun q => ?_) | ((try conv => whnf); first | refine bs_f (decide_eq_false (show ¬ (e.L.length : Int) < (lns e.L).length by omega)) ?_ | refine bs_f (decide_eq_false hn0) ?_ | refine bs_d (fun q => ?_) (fun q => ?_) | refine bs_n ?_ | refine bs_i (fun q => ?_) (fun q => ?_) | refine pK_i (ldO_own (k := 0) rfl hk1 rfl) ?_ | (refine ckBk1 (lo := S.length + 1) (Nat.le_succ _) rfl rfl (hpa _) (SubL.refl _) ?_; rintro r J2 ⟨rfl, hB2, hKp⟩) | refine ckz (head_b) ?_ | refine cq (head_b) ?_ | refine eqk rfl ?_ | refine ffin _ rfl rfl hS (Sub.refl _) rfl ⟨?_, rfl, rfl⟩)
    all_goals rfl
  have hf1' : f1 = postF f e := by rw [hf1, nextF, if_pos (by rw [← hn1]; exact hn0)]
  obtain ⟨hre, hron, hd1⟩ := rev_on (postN_on (by rw [← hn1]; exact hn0)) hrn.symm
  rw [← hr0] at hre hron
  have hmay := postN_may (f := f1) hron
  obtain ⟨n2, hn2⟩ : ∃ n, n = postN stdB f1 0 r0 := ⟨_, rfl⟩
  rw [← hn2] at hmay
  have hpb := fun (X : List O) (hX : BkR X (S.length + 1) (S.length + 1 + 3) (S.length + 1 + 1) (S.length + 1) (S.length + 1 + 2) stdB f1 E1 0) (tk : Tks) => postA (tk := tk) hX r0 hrR (by omega)
  obtain ⟨num2, hnum2⟩ : ∃ n, n = numP stdB f1 0 E1 r0 := ⟨_, rfl⟩
  obtain ⟨f2, hf2⟩ : ∃ n, n = nextF stdB f1 0 r0 := ⟨_, rfl⟩
  obtain ⟨E2, hE2⟩ : ∃ n, n = nextE stdB f1 0 E1 r0 := ⟨_, rfl⟩
  simp only [← hn2, ← hnum2, ← hf2, ← hE2] at hpb
  clear hn1 hf1 hE1 hnum
  subst hn0
  by_cases hm0 : n2 = 0
  rotate_left
  · have hm1 : n2 = 211 := hmay.resolve_left hm0
    clear hn2 hf2 hE2 hnum2
    subst hm1
    repeat' first | with_reducible refine fzD_ite (fun q => ?_) (fun q => ?_) | ((try conv => whnf); first | refine bs_f (decide_eq_false (show ¬ (e.L.length : Int) < (lns e.L).length by omega)) ?_ | refine bs_d (fun q => ?_) (fun q => ?_) | refine bs_n ?_ | refine bs_i (fun q => ?_) (fun q => ?_) | refine pK_i (ldO_own (k := J.length) rfl hk92 rfl) ?_ | refine pK_i (ldO_own (k := 0) rfl hk1 rfl) ?_ | (refine ckBk1 (lo := S.length + 1) (Nat.le_succ _) rfl rfl (hpb _ hB2 _) (SubL.refl _) ?_; rintro r J3 ⟨rfl, hB3, hKp3⟩) | (refine ckBk1 (lo := S.length + 1) (Nat.le_succ _) rfl rfl (hpa _) (SubL.refl _) ?_; rintro r J2 ⟨rfl, hB2, hKp⟩; have hk92 := hKp.own hk9 (by omega) (by omega)) | refine ckz (head_b) ?_ | refine cq (head_b) ?_ | refine eqk rfl ?_ | refine ffin _ rfl rfl hS (Sub.refl _) rfl ⟨?_, rfl, rfl⟩)
    all_goals rfl
  have hf2' : f2 = postF (postF f e) r0 := by rw [hf2, nextF, if_pos (by rw [← hn2]; exact hm0), hf1']
  have hback : ∀ s : Slot, s.2.1 ≠ 3 → (f2 s).getD 0 = (f s).getD 0 := fun s hs => by rw [hf2']; exact back_val f e r0 hre hs
  have htri : triL stdB f2 = triL stdB f := tri_same fun c => hback (c, 0, 0) (by simp)
  clear hn2 hf2 hE2 hnum2
  subst hm0
  repeat' first | with_reducible refine fzD_ite (fun q => ?_) (fun q => ?_) | ((try conv => whnf); first | refine bs_f (decide_eq_false (show ¬ (e.L.length : Int) < (lns e.L).length by omega)) ?_ | refine bs_d (fun q => ?_) (fun q => ?_) | refine bs_n ?_ | refine bs_i (fun q => ?_) (fun q => ?_) | refine pK_i (ldO_own (k := J.length) rfl hk92 rfl) ?_ | refine pK_i (ldO_own (k := 0) rfl hk1 rfl) ?_ | (refine ckBk1 (lo := S.length + 1) (Nat.le_succ _) rfl rfl (hpb _ hB2 _) (SubL.refl _) ?_; rintro r J3 ⟨rfl, hB3, hKp3⟩) | (refine ckBk1 (lo := S.length + 1) (Nat.le_succ _) rfl rfl (hpa _) (SubL.refl _) ?_; rintro r J2 ⟨rfl, hB2, hKp⟩; have hk92 := hKp.own hk9 (by omega) (by omega)) | refine eqk rfl ?_ | refine ffin _ rfl rfl hS (Sub.refl _) rfl ⟨?_, rfl, rfl⟩)
  have hk3 : J3[0]? = some (.arr (entC e)) := ((hKp3.low (k := 0) (by omega)).trans (hKp.low (k := 0) (by omega))).trans hk1
  conv => whnf
  refine floop (α := Nat) rfl rfl hS (fun k => k ≤ e.L.length) (fun k => e.L.length - k) (fun k => [(18, .d (.int .i64 k)), (12, .d (.sl (i64s (waL f e.L)))), (7, .d (.po (S.length + 1 + 3) 0)), (4, .d (.po (S.length + 0) 0)), (11, .d (.sl (bas (triL stdB f))))]) (fun _ => J3) (fun _ => [_]) 0 (Nat.zero_le _) (fstep_sub ⟨Sub.refl _, Sub.rd rfl, Sub.refl _, Sub.refl _, Sub.refl _, trivial⟩) ?_
  intro k hkl
  by_cases hkk : k < e.L.length
  · have hiy := iaD_ln (l := e.L) (i := k) (n := (k : Int)) rfl hkk
    obtain ⟨hw1, hw2⟩ := waL_at f e.L k hkk
    have hwl := waL_len f e.L
    generalize e.L[k]! = y at hiy hw1 hw2
    obtain ⟨p, hp⟩ : ∃ p, p = (f (y.acc, 1, y.cus)).getD 0 := ⟨_, rfl⟩
    obtain ⟨q, hq⟩ : ∃ p, p = (f (y.acc, 2, y.con)).getD 0 := ⟨_, rfl⟩
    rw [← hp] at hw1
    rw [← hq] at hw2
    have e0 : IntKind.wrap .i64 (2 * (k : Int)) = ((2 * k : Nat) : Int) := by rw [wi64_id (by unfold I64; omega)]; omega
    have e1 : IntKind.wrap .i64 (IntKind.wrap .i64 (2 * (k : Int)) + 1) = ((2 * k + 1 : Nat) : Int) := by rw [e0, wi64_id (by unfold I64; omega)]; omega
    have i0 : iaD 1 (.sl (i64s (waL f e.L))) (.int .i64 (IntKind.wrap .i64 (2 * (k : Int)))) = some (.pe [.int .i64 p] 0) := by
      rw [e0]; exact iaD_map (f := fun n => [D.int .i64 n]) (by omega) (by rw [Int.toNat_natCast]; exact hw1) rfl
    have i1 : iaD 1 (.sl (i64s (waL f e.L))) (.int .i64 (IntKind.wrap .i64 (IntKind.wrap .i64 (2 * (k : Int)) + 1))) = some (.pe [.int .i64 q] 0) := by
      rw [e1]; exact iaD_map (f := fun n => [D.int .i64 n]) (by omega) (by rw [Int.toNat_natCast]; exact hw2) rfl
    have hp2 : (f2 (y.acc, 1, y.cus)).getD 0 = p := by rw [hback _ (by simp), hp]
    have hq2 : (f2 (y.acc, 2, y.con)).getD 0 = q := by rw [hback _ (by simp), hq]
    repeat' first | with_reducible refine fzD_ite (fun q => ?_) (fun q => ?_) | ((try conv => whnf); first | refine bs_t (decide_eq_true (show (k : Int) < (lns e.L).length by omega)) ?_ | refine bs_t (decide_eq_true rfl) ?_ | refine bs_d (fun q => ?_) (fun q => ?_) | refine bs_n ?_ | refine bs_i (fun q => ?_) (fun q => ?_) | refine pK_i (ldO_own (k := 0) rfl hk3 rfl) ?_ | refine pK_i hiy ?_ | refine pK_i i0 ?_ | refine pK_i i1 ?_ | refine ckA rfl rfl (ofK hB3 _ _ hp2) ?_ | refine cqA (ofK hB3 _ _ hp2) ?_ | refine ckA rfl rfl (byK hB3 _ _ hq2) ?_ | refine cqA (byK hB3 _ _ hq2) ?_ | refine eqk rfl ?_ | refine ffin _ rfl rfl hS (Sub.refl _) rfl ⟨?_, rfl, rfl⟩)
    conv => whnf
    exact fnext (α := Nat) (k + 1) (by omega) (by omega) (fstep_sub ⟨Sub.int (by first | rfl | omega | (refine Int.sub_eq_zero.mp ?_; simp (disch := ((try unfold I64); omega)) only [wi64_id, td]; omega)), Sub.refl _, Sub.refl _, Sub.refl _, Sub.refl _, trivial⟩)
  · skip
    repeat' first | with_reducible refine fzD_ite (fun q => ?_) (fun q => ?_) | ((try conv => whnf); first | refine bs_f (decide_eq_false (show ¬ (k : Int) < (lns e.L).length by omega)) ?_ | refine bs_d (fun q => ?_) (fun q => ?_) | refine bs_n ?_ | refine bs_i (fun q => ?_) (fun q => ?_) | refine pK_i (ldO_own (k := 0) rfl hk3 rfl) ?_ | refine ckA rfl rfl (triK hB3 htri) ?_ | refine ckz (hsm) ?_ | refine cq (hsm) ?_ | refine ckz (head_b) ?_ | refine cq (head_b) ?_ | refine eqk rfl ?_ | refine ffin _ rfl rfl hS (Sub.refl _) rfl ⟨?_, rfl, rfl⟩)
    all_goals rfl
end Go.KL.YtkojphmejddhiaaDoor.J
