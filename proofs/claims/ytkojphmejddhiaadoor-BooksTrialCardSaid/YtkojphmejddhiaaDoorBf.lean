/- acts on books; which are too great -/
import Derived.Test.YtkojphmejddhiaaDoorBe
set_option linter.unusedVariables false
set_option linter.unusedSimpArgs false
set_option linter.unusedSectionVars false
set_option maxRecDepth 4000
namespace Go.KL.YtkojphmejddhiaaDoor.J
open Go Go.KL Go.RowKit Go.Proofs Go.KL.YtkojphmejddhiaaDoor

theorem c8 : cFun E0.P 8 = some ⟨31, [(2, none)], .seq (.rg [⟨some 2, none, .mv (.k (.bool false))⟩]) (.seq (.seq (.rg [⟨some 3, none, .mv (.k (.int .i64 0))⟩]) (.block 0 (.loop (.seq (.seq (.rg [⟨some 4, none, .mv (.t 3)⟩, ⟨some 5, none, .mv (.t 0)⟩, ⟨some 6, none, .len 1 (.t 5)⟩, ⟨some 7, none, .bin .lss .leaf (.t 4) (.t 6)⟩]) (.cond (.t 7) .skip (.exit 0))) (.seq (.block 1 (.seq (.rg [⟨some 10, none, .mv (.t 0)⟩, ⟨some 11, none, .mv (.t 3)⟩, ⟨some 12, none, .ia 11 (.t 10) (.t 11)⟩, ⟨some 13, none, .fa 1 (.t 12)⟩, ⟨some 14, none, .fa 3 (.t 13)⟩, ⟨some 15, none, .ld 1 false (.t 14)⟩, ⟨some 16, none, .len 1 (.t 15)⟩, ⟨some 17, none, .bin .gtr .leaf (.t 16) (.k (.int .i64 20))⟩, ⟨some 18, none, .mv (.t 17)⟩, ⟨some 19, some (18, false), .mv (.t 0)⟩, ⟨some 20, some (18, false), .mv (.t 3)⟩, ⟨some 21, some (18, false), .ia 11 (.t 19) (.t 20)⟩, ⟨some 22, some (18, false), .fa 6 (.t 21)⟩, ⟨some 23, some (18, false), .fa 3 (.t 22)⟩, ⟨some 24, some (18, false), .ld 1 false (.t 23)⟩, ⟨some 25, some (18, false), .len 0 (.t 24)⟩, ⟨some 26, some (18, false), .bin .gtr .leaf (.t 25) (.k (.int .i64 200))⟩, ⟨some 27, none, .pick (.t 18) (.k (.bool true)) (.t 26)⟩]) (.cond (.t 27) (.seq (.rg [⟨some 2, none, .mv (.k (.bool true))⟩]) .ret) .skip))) (.rg [⟨some 8, none, .mv (.t 3)⟩, ⟨some 9, none, .bin .add .leaf (.t 8) (.k (.int .i64 1))⟩, ⟨some 3, none, .mv (.t 9)⟩])))))) (.seq (.rg [⟨some 28, none, .mv (.t 0)⟩, ⟨some 29, none, .len 1 (.t 28)⟩, ⟨some 30, none, .bin .gtr .leaf (.t 29) (.k (.int .i64 16))⟩, ⟨some 2, none, .mv (.t 30)⟩]) .ret))⟩ := by kernel_rfl

structure At where
  what : Int
  e : Ent
  mo : Int
  a : Go.KL.YtkojphmejddhiaaDoor.Ac
structure At.R (x : At) : Prop where
  what : 0 ≤ x.what ∧ x.what < 256
  e : x.e.R
  mo : I64 x.mo
instance : Inhabited At := ⟨⟨0, ⟨0, 0, 0, []⟩, 0, default⟩⟩
def At.cs (x : At) : List D := [.int .u8 x.what, .int .i64 x.e.day, .int .u8 x.e.kind, .int .u64 x.e.src, .sl (lns x.e.L), .int .i64 x.mo, .int .i64 x.a.code, .int .i64 x.a.up, .int .u8 x.a.cl, .str x.a.nm, .bool x.a.sh]
def ats (l : List At) : List (List D) := l.map At.cs
theorem ats_len (l : List At) : (ats l).length = l.length := List.length_map ..
theorem iaD_at {l : List At} {i : Nat} {n : Int} (h : n = i) (hi : i < l.length) : iaD 11 (.sl (ats l)) (.int .i64 n) = some (.pe (l[i]!).cs 0) := by
  subst h
  exact iaD_map (f := At.cs) (by omega) (by rw [Int.toNat_natCast, List.getElem?_eq_getElem hi, getElem!_pos l i hi]) rfl
theorem scLL_ats (n m : Nat) : ∀ l : List At, scLL n m (ats l) = true
  | [] => rfl
  | x :: l => by
    have h := scLL_ats n m l
    unfold ats at h ⊢
    simp only [List.map_cons, scLL, h, Bool.and_true]
    simp [At.cs, scL, D.sc, scLL_lns]
def bigA (x : At) : Bool := decide (20 < x.e.L.length) || decide (200 < x.a.nm.size)
def greatB (l : List At) : Bool := l.any bigA || decide (16 < l.length)
theorem great (l : List At) (hl : l.length ≤ maxLen) : Pure 8 [.sl (ats l)] (.bool (greatB l)) := by
  intro S tk
  have hlen := ats_len l
  unfold maxLen at hl
  refine ACalls.fgo c8 rfl fun hS => ?_
  repeat' first | with_reducible refine fzD_ite (fun q => ?_) (fun q => ?_) | ((try conv => whnf); first | refine bs_d (fun q => ?_) (fun q => ?_) | refine bs_n ?_ | refine bs_i (fun q => ?_) (fun q => ?_) | refine eqk rfl ?_ | refine ffin _ rfl rfl hS (Sub.refl _) rfl ⟨?_, rfl, rfl⟩)
  refine floop (α := Nat) rfl rfl hS (fun i => i ≤ l.length ∧ (l.take i).any bigA = false) (fun i => l.length - i) (fun i => [(3, .d (.int .i64 i)), (0, .d (.sl (ats l)))]) (fun _ => []) (fun _ => []) 0 ⟨Nat.zero_le _, by simp⟩ (fstep_sub ⟨Sub.refl _, Sub.refl _, trivial⟩) ?_
  rintro i ⟨hi, hb⟩
  by_cases hlt : i < l.length
  · have hll := lns_len (l[i]!).e.L
    have hst : (l.take (i + 1)).any bigA = bigA l[i]! := by rw [take_snA hlt, List.any_append, hb]; simp
    cases hbg : bigA l[i]! with
    | true =>
      have hany : l.any bigA = true := List.any_eq_true.2 ⟨_, mem_at hlt, hbg⟩
      have hres : greatB l = true := by rw [greatB, hany]; rfl
      rw [hres]
      unfold bigA at hbg
      simp only [Bool.or_eq_true, decide_eq_true_eq] at hbg
      repeat' first | with_reducible refine fzD_ite (fun q => ?_) (fun q => ?_) | ((try conv => whnf); first | refine bs_t (decide_eq_true (show (i : Int) < (ats l).length by omega)) ?_ | refine bs_d (fun q => ?_) (fun q => ?_) | refine bs_n ?_ | refine bs_i (fun q => ?_) (fun q => ?_) | refine pK_i (iaD_at (i := i) rfl hlt) ?_ | refine eqk rfl ?_ | refine ffin _ rfl rfl hS (Sub.refl _) rfl ⟨?_, rfl, rfl⟩)
      all_goals first | rfl | (exfalso; omega)
    | false =>
      rw [hbg] at hst
      unfold bigA at hbg
      simp only [Bool.or_eq_false_iff, decide_eq_false_iff_not] at hbg
      repeat' first | with_reducible refine fzD_ite (fun q => ?_) (fun q => ?_) | ((try conv => whnf); first | refine bs_t (decide_eq_true (show (i : Int) < (ats l).length by omega)) ?_ | refine bs_d (fun q => ?_) (fun q => ?_) | refine bs_n ?_ | refine bs_i (fun q => ?_) (fun q => ?_) | refine pK_i (iaD_at (i := i) rfl hlt) ?_ | refine eqk rfl ?_ | refine ffin _ rfl rfl hS (Sub.refl _) rfl ⟨?_, rfl, rfl⟩)
      all_goals first
        | (exfalso; omega)
        | (conv => whnf
           exact fnext (α := Nat) (i + 1) ⟨by omega, hst⟩ (by omega) (fstep_sub ⟨Sub.int (by first | rfl | omega | (refine Int.sub_eq_zero.mp ?_; simp (disch := ((try unfold I64); omega)) only [wi64_id, td]; omega)), Sub.refl _, trivial⟩))
  · rw [List.take_of_length_le (by omega)] at hb
    unfold greatB
    rw [hb, Bool.false_or]
    by_cases h16 : 16 < l.length
    · rw [decide_eq_true h16]
      repeat' first | with_reducible refine fzD_ite (fun q => ?_) (fun q => ?_) | ((try conv => whnf); first | refine bs_f (decide_eq_false (show ¬ (i : Int) < (ats l).length by omega)) ?_ | refine bs_d (fun q => ?_) (fun q => ?_) | refine bs_n ?_ | refine bs_i (fun q => ?_) (fun q => ?_) | refine eqk rfl ?_ | refine ffin _ rfl rfl hS (Sub.refl _) rfl ⟨?_, rfl, rfl⟩)
      all_goals first | rfl | (exfalso; omega)
    · rw [decide_eq_false h16]
      repeat' first | with_reducible refine fzD_ite (fun q => ?_) (fun q => ?_) | ((try conv => whnf); first | refine bs_f (decide_eq_false (show ¬ (i : Int) < (ats l).length by omega)) ?_ | refine bs_d (fun q => ?_) (fun q => ?_) | refine bs_n ?_ | refine bs_i (fun q => ?_) (fun q => ?_) | refine eqk rfl ?_ | refine ffin _ rfl rfl hS (Sub.refl _) rfl ⟨?_, rfl, rfl⟩)
      all_goals first | rfl | (exfalso; omega)
end Go.KL.YtkojphmejddhiaaDoor.J

/- books.May -/
set_option linter.unusedVariables false
set_option linter.unusedSimpArgs false
set_option linter.unusedSectionVars false
set_option maxRecDepth 4000
namespace Go.KL.YtkojphmejddhiaaDoor.J
open Go Go.KL Go.RowKit Go.Proofs Go.KL.YtkojphmejddhiaaDoor

theorem c27 : cFun E0.P 27 = some ⟨26, [(4, none)], .seq (.rg [⟨some 4, none, .mv (.k (.int .i64 0))⟩]) (.seq (.seq (.rg [⟨some 9, none, .mv (.t 0)⟩, ⟨some 10, none, .call 34 [.t 9]⟩]) (.cond (.t 10) (.seq (.rg [⟨some 4, none, .mv (.k (.int .i64 1))⟩]) .ret) .skip)) (.seq (.rg [⟨some 11, none, .mkmap (KT.agg [KLf.i .i64, KLf.i .i64, KLf.i .u64])⟩, ⟨some 5, none, .mv (.t 11)⟩]) (.seq (.seq (.rg [⟨some 12, none, .mv (.t 1)⟩, ⟨some 13, none, .len 1 (.t 12)⟩, ⟨some 14, none, .mv (.k (.int .i64 0))⟩]) (.block 0 (.loop (.seq (.rg [⟨some 15, none, .bin .lss .leaf (.t 14) (.t 13)⟩]) (.seq (.cond (.t 15) .skip (.exit 0)) (.seq (.block 1 (.seq (.rg [⟨some 16, none, .ia 4 (.t 12) (.t 14)⟩, ⟨some 17, none, .ld 4 true (.t 16)⟩, ⟨some 7, none, .alloc [.int .i64 0, .int .u8 0, .int .u64 0, .nilsl] 32⟩, ⟨none, none, .st 4 (.t 7) (.t 17)⟩]) (.seq (.rg [⟨some 18, none, .mv (.t 0)⟩, ⟨some 19, none, .mv (.t 5)⟩, ⟨some 20, none, .ld 4 true (.t 7)⟩, ⟨some 21, none, .call 36 [.t 18, .t 19, .t 20]⟩, ⟨some 8, none, .mv (.t 21)⟩]) (.seq (.rg [⟨some 22, none, .mv (.t 8)⟩, ⟨some 23, none, .bin .neq .leaf (.t 22) (.k (.int .i64 0))⟩]) (.cond (.t 23) (.seq (.rg [⟨some 24, none, .mv (.t 8)⟩, ⟨some 4, none, .mv (.t 24)⟩]) .ret) .skip))))) (.rg [⟨some 25, none, .bin .add .leaf (.t 14) (.k (.int .i64 1))⟩, ⟨some 14, none, .mv (.t 25)⟩]))))))) (.seq (.rg [⟨some 4, none, .mv (.k (.int .i64 0))⟩]) .ret))))⟩ := by kernel_rfl

theorem iaD_en {l : List Ent} {i : Nat} {n : Int} (h : n = i) {e : Ent} (he : l[i]? = some e) : iaD 4 (.sl (entR l)) (.int .i64 n) = some (.pe (entC e) 0) := by
  subst h
  exact iaD_map (f := entC) (by omega) (by rw [Int.toNat_natCast]; exact he) rfl
open Classical in
/-- the error of an entry, behind those that were reckoned into g -/
noncomputable def stepE (ql : AcL) (f : Slot → Option Int) (closed : Int) (g : Slot → Option Int) (e : Ent) : Int := if onN ql e ≠ 0 ∨ ofI e.day ≤ closed then (if onN ql e ≠ 0 then onN ql e else 210) else if ∀ s ∈ tts (adL e), okS (adL e) f g s then 0 else 211
noncomputable def mayN (ql : AcL) (f : Slot → Option Int) (closed : Int) : (Slot → Option Int) → List Ent → Int
  | _, [] => 0
  | g, e :: r => if stepE ql f closed g e ≠ 0 then stepE ql f closed g e else mayN ql f closed (gV (adL e) f g (tts (adL e))) r
structure MyS where
  i : Nat
  g : Slot → Option Int
  o : O
section
variable {X : List O} {tk : Tks} {lo bid cid kid mid : Nat} {ql : AcL} {f : Slot → Option Int} {E : List Ent} {closed : Int}
set_option maxHeartbeats 2000000 in
theorem may_b (h : BkR X lo bid cid kid mid ql f E closed) (l : List Ent) (hl : l.length < 1000000) (hR : ∀ e ∈ l, e.R) : ACalls E0 27 [.po bid 0, .sl (entR l)] X tk (fun r S' tk' => r = .int .i64 (mayN ql f closed noneF l) ∧ S' = X ∧ tk' = tk) := by
  obtain ⟨vid, ety, hb, -⟩ := h.b
  obtain ⟨oc, hk, hch⟩ := h.k
  obtain ⟨om, hm, hf⟩ := h.m
  have hml := (List.getElem?_eq_some_iff.1 hm).1
  have hbl := (List.getElem?_eq_some_iff.1 hb).1
  have hlen : (entR l).length = l.length := by simp [entR]
  have hscl : ∀ n m, scLL n m (entR l) = true := fun n m => by
    have : ∀ l : List Ent, scLL n m (entR l) = true := fun l => by
      induction l with
      | nil => rfl
      | cons a r ih =>
        unfold entR at ih ⊢
        simp only [List.map_cons, scLL, ih, Bool.and_true]
        simp [entC, scL, D.sc, scLL_lns]
    exact this l
  refine ACalls.fgo c27 rfl fun hS => ?_
  repeat' first | with_reducible refine fzD_ite (fun q => ?_) (fun q => ?_) | ((try conv => whnf); first | refine bs_d (fun q => ?_) (fun q => ?_) | refine bs_n ?_ | refine bs_i (fun q => ?_) (fun q => ?_) | refine ckA rfl rfl (none_b (at_old hb)) ?_ | refine eqk rfl ?_ | refine ffin _ rfl rfl hS (Sub.refl _) rfl ⟨?_, rfl, rfl⟩)
  conv => whnf
  refine floop (α := MyS) rfl rfl hS (fun s => s.i ≤ l.length ∧ Nw s.g s.o ∧ (∀ x, I64 ((s.g x).getD 0)) ∧ mayN ql f closed noneF l = mayN ql f closed s.g (l.drop s.i)) (fun s => l.length - s.i) (fun s => [(14, .d (.int .i64 s.i)), (13, .d (.int .i64 l.length)), (12, .d (.sl (entR l))), (0, .d (.po bid 0)), (5, .d (.map (X.length + 0)))]) (fun s => [s.o]) (fun _ => []) ⟨0, noneF, .map kSl (MG.entKv sD []) 0⟩ ⟨Nat.zero_le _, nw_empty, fun x => by unfold noneF I64; simp, rfl⟩ (fstep_sub ⟨Sub.refl _, Sub.int (by rw [hlen]), Sub.refl _, Sub.refl _, Sub.refl _, trivial⟩) ?_
  rintro ⟨i, g, o⟩ ⟨hi, hg, hgI, hr⟩
  simp only at hi hg hgI hr ⊢
  by_cases hlt : i < l.length
  rotate_left
  · rw [List.drop_of_length_le (by omega), mayN] at hr
    rw [hr]
    repeat' first | with_reducible refine fzD_ite (fun q => ?_) (fun q => ?_) | ((try conv => whnf); first | refine bs_f (decide_eq_false (show ¬ (i : Int) < l.length by omega)) ?_ | refine bs_d (fun q => ?_) (fun q => ?_) | refine bs_n ?_ | refine bs_i (fun q => ?_) (fun q => ?_) | refine eqk rfl ?_ | refine ffin _ rfl rfl hS (Sub.refl _) rfl ⟨?_, rfl, rfl⟩)
    all_goals rfl
  · have hat := List.getElem?_eq_getElem hlt
    have hRe := hR _ (List.getElem_mem hlt)
    rw [List.drop_eq_getElem_cons hlt, mayN] at hr
    generalize l[i] = e at hat hRe hr
    have hix := iaD_en (l := l) (i := i) (n := (i : Int)) rfl hat
    by_cases hbad : onN ql e ≠ 0 ∨ ofI e.day ≤ closed
    · have hst : stepE ql f closed g e = (if onN ql e ≠ 0 then onN ql e else 210) := if_pos hbad
      have hne : (if onN ql e ≠ 0 then onN ql e else 210) ≠ 0 := by
        split
        · assumption
        · decide
      rw [hst, if_pos hne] at hr
      have ha : ∀ (J : List O) (tk : Tks) (nid : Nat), ACalls E0 36 [.po bid 0, .map nid, e.d] (X ++ J) tk (fun r S' tk' => r = .int .i64 (if onN ql e ≠ 0 then onN ql e else 210) ∧ S' = X ++ J ∧ tk' = tk) := fun J tk nid => adds_err e hRe (at_old hb) (at_old h.c) (at_old hk) hch h.ok h.lq hbad
      rw [hr]
      obtain ⟨n, hn⟩ : ∃ n, n = (if onN ql e ≠ 0 then onN ql e else 210) := ⟨_, rfl⟩
      simp only [← hn] at hne ha ⊢
      repeat' first | with_reducible refine fzD_ite (fun q => ?_) (fun q => ?_) | ((try conv => whnf); first | refine bs_t (decide_eq_true (show (i : Int) < l.length by omega)) ?_ | refine bs_f (decide_eq_false hne) ?_ | refine bs_d (fun q => ?_) (fun q => ?_) | refine bs_n ?_ | refine bs_i (fun q => ?_) (fun q => ?_) | refine pK_i hix ?_ | refine ckA rfl rfl (ha _ _ _) ?_ | refine eqk rfl ?_ | refine ffin _ rfl rfl hS (Sub.refl _) rfl ⟨?_, rfl, rfl⟩)
      all_goals rfl
    · have h1 : onN ql e = 0 := Classical.byContradiction fun h => hbad (.inl h)
      have h2 : ¬ ofI e.day ≤ closed := fun h => hbad (.inr h)
      have hchk : e.chk = 0 := Classical.byContradiction fun h => by rw [onN, if_neg h] at h1; exact h h1
      have ha : ∀ (J : List O) (tk : Tks), J[0]? = some o → ACalls E0 36 [.po bid 0, .map (X.length + 0), e.d] (X ++ J) tk (fun r S' tk' => ∃ o', (((∀ s ∈ tts (adL e), okS (adL e) f g s) ∧ r = .int .i64 0 ∧ Nw (gV (adL e) f g (tts (adL e))) o') ∨ ((∃ s ∈ tts (adL e), ¬ okS (adL e) f g s) ∧ r = .int .i64 211 ∧ ∃ g', Nw g' o')) ∧ S' = (X ++ J).set (X.length + 0) o' ∧ tk' = tk) := fun J tk hJ => adds e hRe hchk h1 h2 (at_old hb) (at_old h.c) (at_old hk) hch h.ok h.lq (at_old hm) hf (at_own rfl hJ) hg (by omega) h.I hgI
      by_cases hokA : ∀ s ∈ tts (adL e), okS (adL e) f g s
      · have hst : stepE ql f closed g e = 0 := by rw [stepE, if_neg hbad, if_pos hokA]
        rw [hst, if_neg (by simp)] at hr
        have hI2 : ∀ x, I64 ((gV (adL e) f g (tts (adL e)) x).getD 0) := fun x => by
          unfold gV
          by_cases hx : x ∈ tts (adL e)
          · rw [if_pos hx]
            have := hokA x hx
            unfold okS at this
            unfold I64
            simp only [Option.getD_some]; omega
          · rw [if_neg hx]; exact hgI x
        have ha2 : ∀ (J : List O) (tk : Tks), J[0]? = some o → ACalls E0 36 [.po bid 0, .map (X.length + 0), e.d] (X ++ J) tk (fun r S' tk' => ∃ o', (r = .int .i64 0 ∧ Nw (gV (adL e) f g (tts (adL e))) o') ∧ S' = (X ++ J).set (X.length + 0) o' ∧ tk' = tk) := fun J tk hJ => (ha J tk hJ).mono (by
          rintro r S' tk' ⟨o', h5, h6, h7⟩
          rcases h5 with ⟨-, h8, h9⟩ | ⟨⟨s, hs, hno⟩, -⟩
          · exact ⟨o', ⟨h8, h9⟩, h6, h7⟩
          · exact absurd (hokA s hs) hno)
        repeat' first | with_reducible refine fzD_ite (fun q => ?_) (fun q => ?_) | ((try conv => whnf); first | refine bs_t (decide_eq_true (show (i : Int) < l.length by omega)) ?_ | refine bs_d (fun q => ?_) (fun q => ?_) | refine bs_n ?_ | refine bs_i (fun q => ?_) (fun q => ?_) | refine pK_i hix ?_ | (refine ckJE (k := 0) (G := fun r o' => r = .int .i64 0 ∧ Nw (gV (adL e) f g (tts (adL e))) o') rfl rfl (ha2 _ _ rfl) (SubL.refl _) ?_; rintro r o2 ⟨rfl, hn2⟩) | refine eqk rfl ?_ | refine ffin _ rfl rfl hS (Sub.refl _) rfl ⟨?_, rfl, rfl⟩)
        conv => whnf
        exact fnext (α := MyS) ⟨i + 1, _, o2⟩ ⟨by simp only; omega, hn2, hI2, hr⟩ (by simp only; omega) (fstep_drop (J' := [_]) (Jx := [_]) (TK' := []) (TKx := []) rfl rfl ⟨Sub.int (by first | rfl | omega | (refine Int.sub_eq_zero.mp ?_; simp (disch := ((try unfold I64); omega)) only [wi64_id, td]; omega)), Sub.refl _, Sub.refl _, Sub.refl _, Sub.refl _, trivial⟩ (by simp [frD, FD.to, frSc, D.sc, hscl]; omega) (by simp [oScL, sc_nw hn2]))
      · have hst : stepE ql f closed g e = 211 := by rw [stepE, if_neg hbad, if_neg hokA]
        rw [hst, if_pos (by simp)] at hr
        rw [hr]
        have ha2 : ∀ (J : List O) (tk : Tks), J[0]? = some o → ACalls E0 36 [.po bid 0, .map (X.length + 0), e.d] (X ++ J) tk (fun r S' tk' => ∃ o', r = .int .i64 211 ∧ S' = (X ++ J).set (X.length + 0) o' ∧ tk' = tk) := fun J tk hJ => (ha J tk hJ).mono (by
          rintro r S' tk' ⟨o', h5, h6, h7⟩
          rcases h5 with ⟨h8, -⟩ | ⟨-, h8, -⟩
          · exact absurd h8 hokA
          · exact ⟨o', h8, h6, h7⟩)
        repeat' first | with_reducible refine fzD_ite (fun q => ?_) (fun q => ?_) | ((try conv => whnf); first | refine bs_t (decide_eq_true (show (i : Int) < l.length by omega)) ?_ | refine bs_d (fun q => ?_) (fun q => ?_) | refine bs_n ?_ | refine bs_i (fun q => ?_) (fun q => ?_) | refine pK_i hix ?_ | (refine ckJE (k := 0) (G := fun r o' => r = .int .i64 211) rfl rfl (ha2 _ _ rfl) (SubL.refl _) ?_; rintro r o2 rfl) | refine eqk rfl ?_ | refine ffin _ rfl rfl hS (Sub.refl _) rfl ⟨?_, rfl, rfl⟩)
        all_goals rfl
end
end Go.KL.YtkojphmejddhiaaDoor.J

/- May, and Post one behind the other (plain) -/
set_option linter.unusedVariables false
set_option linter.unusedSimpArgs false
namespace Go.KL.YtkojphmejddhiaaDoor.J
open Go Go.KL Go.RowKit Go.Proofs Go.KL.YtkojphmejddhiaaDoor

variable {ql : AcL} {f g : Slot → Option Int} {closed : Int}
theorem was_or (f g : Slot → Option Int) (s : Slot) : wasV f g s = wasV (orF f g) noneF s := by
  unfold wasV orF noneF
  cases g s <;> rfl
theorem new_or (L : List Ln) (f g : Slot → Option Int) (s : Slot) : newV L f g s = newV L (orF f g) noneF s := by rw [newV, newV, was_or]
theorem ok_or (L : List Ln) (f g : Slot → Option Int) (s : Slot) : okS L f g s ↔ okS L (orF f g) noneF s := by unfold okS; rw [new_or]
theorem post_or (e : Ent) (f g : Slot → Option Int) : orF f (gV (adL e) f g (tts (adL e))) = postF (orF f g) e := by
  funext s
  unfold postF
  rw [orF, orF]
  unfold gV
  by_cases h : s ∈ tts (adL e)
  · rw [if_pos h, if_pos h, new_or]; rfl
  · rw [if_neg h, if_neg h]; rfl
theorem step_or (e : Ent) : stepE ql f closed g e = postN ql (orF f g) closed e := by
  unfold stepE postN
  by_cases hb : onN ql e ≠ 0 ∨ ofI e.day ≤ closed
  · rw [if_pos hb, if_pos hb]
  · rw [if_neg hb, if_neg hb]
    by_cases h : ∀ s ∈ tts (adL e), okS (adL e) f g s
    · rw [if_pos h, if_pos fun s hs => (ok_or _ _ _ _).1 (h s hs)]
    · rw [if_neg h, if_neg fun h2 => h fun s hs => (ok_or _ _ _ _).2 (h2 s hs)]
/-- the first error of entries that are posted one behind the other -/
noncomputable def postsN (ql : AcL) (closed : Int) : (Slot → Option Int) → List Ent → Int
  | _, [] => 0
  | f, e :: r => if postN ql f closed e ≠ 0 then postN ql f closed e else postsN ql closed (postF f e) r
theorem may_posts : ∀ (l : List Ent) (g : Slot → Option Int), mayN ql f closed g l = postsN ql closed (orF f g) l
  | [], g => rfl
  | e :: r, g => by
    rw [mayN, postsN, step_or, may_posts r, post_or]
theorem or_none (f : Slot → Option Int) : orF f noneF = f := rfl
theorem may_is (l : List Ent) : mayN ql f closed noneF l = postsN ql closed f l := may_posts l noneF
end Go.KL.YtkojphmejddhiaaDoor.J

/- Post, whatever comes of it: one contract -/
set_option linter.unusedVariables false
set_option linter.unusedSimpArgs false
set_option linter.unusedSectionVars false
namespace Go.KL.YtkojphmejddhiaaDoor.J
open Go Go.KL Go.RowKit Go.Proofs Go.KL.YtkojphmejddhiaaDoor

/-- the sums, and the entries, behind an entry that may have been refused -/
noncomputable def nextF (ql : AcL) (f : Slot → Option Int) (closed : Int) (e : Ent) : Slot → Option Int := if postN ql f closed e = 0 then postF f e else f
noncomputable def nextE (ql : AcL) (f : Slot → Option Int) (closed : Int) (E : List Ent) (e : Ent) : List Ent := if postN ql f closed e = 0 then E ++ [e] else E
noncomputable def numP (ql : AcL) (f : Slot → Option Int) (closed : Int) (E : List Ent) (e : Ent) : Int := if postN ql f closed e = 0 then ((E.length + 1 : Nat) : Int) else 0
theorem Keeps.refl (lo bid mid : Nat) (X : List O) : Keeps lo bid mid X X := ⟨Nat.le_refl _, fun _ _ => rfl, fun _ _ h _ _ _ => h⟩
section
variable {X : List O} {tk : Tks} {lo bid cid kid mid : Nat} {ql : AcL} {f : Slot → Option Int} {E : List Ent} {closed : Int}
theorem postA (h : BkR X lo bid cid kid mid ql f E closed) (e : Ent) (hR : e.R) (hE : E.length < 1000000) :
    ACalls E0 18 [.po bid 0, e.d] X tk (fun r X' tk' => (r = .tup [.int .u64 (numP ql f closed E e), .int .i64 (postN ql f closed e)] ∧ BkR X' lo bid cid kid mid ql (nextF ql f closed e) (nextE ql f closed E e) closed ∧ Keeps lo bid mid X X') ∧ ((∀ id, id < lo → X'[id]? = X[id]?) ∧ lo ≤ X'.length) ∧ tk' = tk) := by
  obtain ⟨vid, ety, hb, -⟩ := h.b
  have hbl := (List.getElem?_eq_some_iff.1 hb).1
  have hlo := h.lo.1
  by_cases hbad : onN ql e ≠ 0 ∨ ofI e.day ≤ closed
  · have hp : postN ql f closed e = (if onN ql e ≠ 0 then onN ql e else 210) := if_pos hbad
    have hne : (if onN ql e ≠ 0 then onN ql e else 210) ≠ 0 := by
      split
      · assumption
      · decide
    refine (post_err h e hR hbad).mono ?_
    rintro r X' tk' ⟨rfl, rfl, rfl⟩
    refine ⟨⟨?_, ?_, Keeps.refl ..⟩, ⟨fun _ _ => rfl, by omega⟩, rfl⟩
    · rw [numP, hp, if_neg hne]
    · rw [nextF, nextE, hp, if_neg hne, if_neg hne]; exact h
  · have h1 : onN ql e = 0 := Classical.byContradiction fun h => hbad (.inl h)
    have h2 : ¬ ofI e.day ≤ closed := fun h => hbad (.inr h)
    by_cases h3 : ∀ s ∈ tts (adL e), okS (adL e) f noneF s
    · have hp : postN ql f closed e = 0 := by rw [postN, if_neg hbad, if_pos h3]
      refine (postK h e hR h1 h2 h3 hE).mono ?_
      rintro r X' tk' ⟨⟨rfl, h5, h6⟩, h7, h8⟩
      refine ⟨⟨?_, ?_, h6⟩, h7, h8⟩
      · rw [numP, hp, if_pos rfl]
      · rw [nextF, nextE, if_pos hp, if_pos hp]; exact h5
    · have hp : postN ql f closed e = 211 := by rw [postN, if_neg hbad, if_neg h3]
      refine (post_over h e hR h1 h2 h3).mono ?_
      rintro r X' tk' ⟨rfl, rfl, rfl⟩
      refine ⟨⟨?_, ?_, Keeps.refl ..⟩, ⟨fun _ _ => rfl, by omega⟩, rfl⟩
      · rw [numP, hp, if_neg (by omega)]
      · rw [nextF, nextE, hp, if_neg (by omega), if_neg (by omega)]; exact h
end
end Go.KL.YtkojphmejddhiaaDoor.J

/- plain facts of sums behind entries -/
set_option linter.unusedVariables false
set_option linter.unusedSimpArgs false
namespace Go.KL.YtkojphmejddhiaaDoor.J
open Go Go.KL Go.RowKit Go.Proofs Go.KL.YtkojphmejddhiaaDoor

theorem nextE_len (ql : AcL) (f : Slot → Option Int) (cl : Int) (E : List Ent) (e : Ent) : (nextE ql f cl E e).length ≤ E.length + 1 := by
  unfold nextE; split <;> simp
theorem mem_ad {e : Ent} {s : Slot} : s ∈ tts (adL e) ↔ ∃ x ∈ e.L, ∃ k, k < 4 ∧ s = slotK e.day x k := by
  rw [mem_tts, List.mem_map]
  constructor
  · rintro ⟨y, hy, rfl⟩
    obtain ⟨x, hx, hy⟩ := List.mem_flatMap.1 hy
    simp only [List.mem_cons, List.not_mem_nil, or_false] at hy
    rcases hy with rfl | rfl | rfl | rfl
    · exact ⟨x, hx, 0, by omega, rfl⟩
    · exact ⟨x, hx, 1, by omega, rfl⟩
    · exact ⟨x, hx, 2, by omega, rfl⟩
    · exact ⟨x, hx, 3, by omega, rfl⟩
  · rintro ⟨x, hx, k, hk, rfl⟩
    refine ⟨sLn (slotK e.day x k) x.amt, List.mem_flatMap.2 ⟨x, hx, ?_⟩, rfl⟩
    have : k = 0 ∨ k = 1 ∨ k = 2 ∨ k = 3 := by omega
    rcases this with rfl | rfl | rfl | rfl <;> simp
theorem post_val (f : Slot → Option Int) (e : Ent) (s : Slot) : (postF f e s).getD 0 = (amtsT (adL e) s).sum + (f s).getD 0 := by
  unfold postF orF gV
  by_cases h : s ∈ tts (adL e)
  · rw [if_pos h]; simp [newV, wasV, noneF]
  · rw [if_neg h, amtsT_none (fun hm => h ((mem_tts _ _).2 hm))]; simp [noneF]
theorem post_same {f : Slot → Option Int} {e : Ent} {s : Slot} (h : s ∉ tts (adL e)) : postF f e s = f s := by
  unfold postF orF gV
  rw [if_neg h]; rfl
theorem slot_mo {day : Int} {x : Ln} {k : Nat} {a i : Int} (hk : k < 4) (h : (a, 3, i) = slotK day x k) : i = ofI day := by
  have : k = 0 ∨ k = 1 ∨ k = 2 ∨ k = 3 := by omega
  rcases this with rfl | rfl | rfl | rfl <;> simp [slotK] at h
  exact h.2
/-- the sums of a month that is closed stay -/
theorem in_stay (f : Slot → Option Int) (e : Ent) {closed : Int} (h2 : ¬ ofI e.day ≤ closed) (a : Int) {month : Int} (hm : month ≤ closed) : inV (postF f e) a month = inV f a month := by
  unfold inV
  split
  · rfl
  · rw [post_same]
    intro h
    obtain ⟨x, _, k, hk, h⟩ := mem_ad.1 h
    have := slot_mo hk h
    omega
theorem neg_slot {d d' : Int} {x : Ln} : ∀ {k : Nat}, k < 3 → slotK d' (neg x) k = slotK d x k
  | 0, _ => rfl
  | 1, _ => rfl
  | 2, _ => rfl
def flat4 (day : Int) (L : List Ln) : List Ln := L.flatMap fun x => [sLn (slotK day x 0) x.amt, sLn (slotK day x 1) x.amt, sLn (slotK day x 2) x.amt, sLn (slotK day x 3) x.amt]
theorem amts_sLn (t s : Slot) (n : Int) (l : List Ln) : (amtsT (sLn t n :: l) s).sum = (if t = s then n else 0) + (amtsT l s).sum := by
  unfold amtsT
  rw [List.filter_cons, sLn_t]
  by_cases h : t = s <;> simp [h, sLn]
theorem amts_nil (s : Slot) : (amtsT [] s).sum = 0 := rfl
theorem flat4_neg (d d' : Int) {s : Slot} (hs : s.2.1 ≠ 3) : ∀ L : List Ln, (amtsT (flat4 d' (L.map neg)) s).sum = -(amtsT (flat4 d L) s).sum
  | [] => rfl
  | x :: L => by
    have ih := flat4_neg d d' hs L
    have h3 : ∀ day y, slotK day y 3 ≠ s := fun day y h => hs (by rw [← h]; rfl)
    unfold flat4 at ih ⊢
    rw [List.map_cons, List.flatMap_cons, List.flatMap_cons, amtsT_app, amtsT_app, List.sum_append, List.sum_append, ih]
    have e : (amtsT [sLn (slotK d' (neg x) 0) (neg x).amt, sLn (slotK d' (neg x) 1) (neg x).amt, sLn (slotK d' (neg x) 2) (neg x).amt, sLn (slotK d' (neg x) 3) (neg x).amt] s).sum = -(amtsT [sLn (slotK d x 0) x.amt, sLn (slotK d x 1) x.amt, sLn (slotK d x 2) x.amt, sLn (slotK d x 3) x.amt] s).sum := by
      rw [neg_slot (d := d) (k := 0) (by omega), neg_slot (d := d) (k := 1) (by omega), neg_slot (d := d) (k := 2) (by omega)]
      have k3 := h3 d' (neg x)
      have k3' := h3 d x
      simp only [amts_sLn, amts_nil, if_neg k3, if_neg k3']
      by_cases h0 : slotK d x 0 = s <;> by_cases h1 : slotK d x 1 = s <;> by_cases h2 : slotK d x 2 = s <;> simp only [h0, h1, h2, if_true, if_false, neg] <;> omega
    rw [e]; omega
/-- an entry and its reversal leave all sums but those of months -/
theorem back_val (f : Slot → Option Int) (e r : Ent) {day : Int} (hr : r = ⟨day, e.kind, e.src, e.L.map neg⟩) {s : Slot} (hs : s.2.1 ≠ 3) : (postF (postF f e) r s).getD 0 = (f s).getD 0 := by
  subst hr
  rw [post_val, post_val]
  have := flat4_neg e.day day hs e.L
  show (amtsT (flat4 day (e.L.map neg)) s).sum + ((amtsT (flat4 e.day e.L) s).sum + _) = _
  omega
end Go.KL.YtkojphmejddhiaaDoor.J

/- BooksMay -/
set_option linter.unusedVariables false
set_option linter.unusedSimpArgs false
set_option linter.unusedSectionVars false
set_option maxRecDepth 4000
namespace Go.KL.YtkojphmejddhiaaDoor.J
open Go Go.KL Go.RowKit Go.Proofs Go.KL.YtkojphmejddhiaaDoor

theorem c6 : cFun E0.P 6 = some ⟨111, [(4, none)], .seq (.rg [⟨some 4, none, .mv (.k (.bool false))⟩]) (.seq (.seq (.rg [⟨some 14, none, .mv (.t 0)⟩, ⟨some 15, none, .call 8 [.t 14]⟩, ⟨some 16, none, .mv (.t 15)⟩, ⟨some 17, some (16, false), .mv (.t 1)⟩, ⟨some 18, some (16, false), .len 1 (.t 17)⟩, ⟨some 19, some (16, false), .bin .gtr .leaf (.t 18) (.k (.int .i64 8))⟩, ⟨some 20, none, .pick (.t 16) (.k (.bool true)) (.t 19)⟩]) (.cond (.t 20) (.seq (.rg [⟨some 21, none, .call 9 []⟩, ⟨some 4, none, .mv (.t 21)⟩]) .ret) .skip)) (.seq (.rg [⟨some 22, none, .call 10 []⟩, ⟨some 23, none, .call 11 [.t 22]⟩, ⟨some 5, none, .mv (.t 23)⟩]) (.seq (.seq (.rg [⟨some 6, none, .mv (.k (.int .i64 0))⟩]) (.block 0 (.loop (.seq (.seq (.rg [⟨some 24, none, .mv (.t 6)⟩, ⟨some 25, none, .mv (.t 0)⟩, ⟨some 26, none, .len 1 (.t 25)⟩, ⟨some 27, none, .bin .lss .leaf (.t 24) (.t 26)⟩]) (.cond (.t 27) .skip (.exit 0))) (.seq (.block 1 (.seq (.rg [⟨some 30, none, .mv (.t 0)⟩, ⟨some 31, none, .mv (.t 6)⟩, ⟨some 32, none, .ia 11 (.t 30) (.t 31)⟩, ⟨some 33, none, .fa 0 (.t 32)⟩, ⟨some 34, none, .ld 1 false (.t 33)⟩, ⟨some 35, none, .bin .rem .leaf (.t 34) (.k (.int .u8 4))⟩, ⟨some 36, none, .bin .eql .leaf (.t 35) (.k (.int .u8 1))⟩]) (.cond (.t 36) (.rg [⟨some 37, none, .mv (.t 5)⟩, ⟨some 38, none, .mv (.t 0)⟩, ⟨some 39, none, .mv (.t 6)⟩, ⟨some 40, none, .ia 11 (.t 38) (.t 39)⟩, ⟨some 41, none, .fa 5 (.t 40)⟩, ⟨some 42, none, .ld 1 false (.t 41)⟩, ⟨some 43, none, .call 16 [.t 37, .t 42]⟩]) (.rg [⟨some 44, none, .mv (.t 5)⟩, ⟨some 45, none, .mv (.t 0)⟩, ⟨some 46, none, .mv (.t 6)⟩, ⟨some 47, none, .ia 11 (.t 45) (.t 46)⟩, ⟨some 48, none, .fa 1 (.t 47)⟩, ⟨some 49, none, .ld 4 true (.t 48)⟩, ⟨some 50, none, .call 18 [.t 44, .t 49]⟩])))) (.rg [⟨some 28, none, .mv (.t 6)⟩, ⟨some 29, none, .bin .add .leaf (.t 28) (.k (.int .i64 1))⟩, ⟨some 6, none, .mv (.t 29)⟩])))))) (.seq (.seq (.rg [⟨some 7, none, .mv (.k (.int .i64 0))⟩]) (.block 2 (.loop (.seq (.seq (.rg [⟨some 51, none, .mv (.t 7)⟩, ⟨some 52, none, .mv (.t 1)⟩, ⟨some 53, none, .len 1 (.t 52)⟩, ⟨some 54, none, .bin .lss .leaf (.t 51) (.t 53)⟩]) (.cond (.t 54) .skip (.exit 2))) (.seq (.block 3 (.seq (.rg [⟨some 57, none, .mv (.t 1)⟩, ⟨some 58, none, .mv (.t 7)⟩, ⟨some 59, none, .ia 4 (.t 57) (.t 58)⟩, ⟨some 60, none, .fa 3 (.t 59)⟩, ⟨some 61, none, .ld 1 false (.t 60)⟩, ⟨some 62, none, .len 1 (.t 61)⟩, ⟨some 63, none, .bin .gtr .leaf (.t 62) (.k (.int .i64 20))⟩]) (.cond (.t 63) (.seq (.rg [⟨some 64, none, .call 9 []⟩, ⟨some 4, none, .mv (.t 64)⟩]) .ret) .skip))) (.rg [⟨some 55, none, .mv (.t 7)⟩, ⟨some 56, none, .bin .add .leaf (.t 55) (.k (.int .i64 1))⟩, ⟨some 7, none, .mv (.t 56)⟩])))))) (.seq (.rg [⟨some 65, none, .mv (.t 5)⟩, ⟨some 66, none, .call 13 [.t 65]⟩, ⟨some 67, none, .mv (.t 5)⟩, ⟨some 68, none, .call 12 [.t 67]⟩, ⟨some 8, none, .mv (.t 66)⟩, ⟨some 9, none, .mv (.t 68)⟩]) (.seq (.rg [⟨some 69, none, .mv (.t 5)⟩, ⟨some 70, none, .mv (.t 1)⟩, ⟨some 71, none, .call 27 [.t 69, .t 70]⟩, ⟨some 10, none, .mv (.t 71)⟩]) (.seq (.seq (.rg [⟨some 72, none, .mv (.t 5)⟩, ⟨some 73, none, .call 13 [.t 72]⟩, ⟨some 74, none, .mv (.t 8)⟩, ⟨some 75, none, .bin .neq .leaf (.t 73) (.t 74)⟩, ⟨some 76, none, .mv (.t 75)⟩, ⟨some 77, some (76, false), .mv (.t 5)⟩, ⟨some 78, some (76, false), .call 12 [.t 77]⟩, ⟨some 79, some (76, false), .mv (.t 9)⟩, ⟨some 80, some (76, false), .call 17 [.t 78, .t 79]⟩, ⟨some 81, some (76, false), .un .not (.t 80)⟩, ⟨some 82, none, .pick (.t 76) (.k (.bool true)) (.t 81)⟩]) (.cond (.t 82) (.seq (.rg [⟨some 4, none, .mv (.k (.bool false))⟩]) .ret) .skip)) (.seq (.seq (.rg [⟨some 11, none, .mv (.k (.int .i64 0))⟩]) (.block 4 (.loop (.seq (.seq (.rg [⟨some 83, none, .mv (.t 11)⟩, ⟨some 84, none, .mv (.t 1)⟩, ⟨some 85, none, .len 1 (.t 84)⟩, ⟨some 86, none, .bin .lss .leaf (.t 83) (.t 85)⟩]) (.cond (.t 86) .skip (.exit 4))) (.seq (.block 5 (.seq (.rg [⟨some 90, none, .mv (.t 5)⟩, ⟨some 91, none, .mv (.t 1)⟩, ⟨some 92, none, .mv (.t 11)⟩, ⟨some 93, none, .ia 4 (.t 91) (.t 92)⟩, ⟨some 94, none, .ld 4 true (.t 93)⟩, ⟨some 95, none, .call 18 [.t 90, .t 94]⟩, ⟨some 89, none, .mv (.t 95)⟩, ⟨some 96, none, .ext 0 (.t 89)⟩, ⟨some 97, none, .ext 1 (.t 89)⟩, ⟨some 12, none, .mv (.t 96)⟩, ⟨some 13, none, .mv (.t 97)⟩]) (.seq (.rg [⟨some 98, none, .mv (.t 13)⟩, ⟨some 99, none, .bin .neq .leaf (.t 98) (.k (.int .i64 0))⟩]) (.cond (.t 99) (.seq (.rg [⟨some 100, none, .mv (.t 10)⟩, ⟨some 101, none, .mv (.t 13)⟩, ⟨some 102, none, .bin .eql .leaf (.t 100) (.t 101)⟩, ⟨some 103, none, .mv (.t 102)⟩, ⟨some 104, some (103, true), .call 9 []⟩, ⟨some 105, none, .pick (.t 103) (.t 104) (.k (.bool false))⟩, ⟨some 4, none, .mv (.t 105)⟩]) .ret) .skip)))) (.rg [⟨some 87, none, .mv (.t 11)⟩, ⟨some 88, none, .bin .add .leaf (.t 87) (.k (.int .i64 1))⟩, ⟨some 11, none, .mv (.t 88)⟩])))))) (.seq (.rg [⟨some 106, none, .mv (.t 10)⟩, ⟨some 107, none, .bin .eql .leaf (.t 106) (.k (.int .i64 0))⟩, ⟨some 108, none, .mv (.t 107)⟩, ⟨some 109, some (108, true), .call 9 []⟩, ⟨some 110, none, .pick (.t 108) (.t 109) (.k (.bool false))⟩, ⟨some 4, none, .mv (.t 110)⟩]) .ret)))))))))⟩ := by kernel_rfl

structure BmS where
  i : Nat
  J : List O
  f : Slot → Option Int
  E : List Ent
  cl : Int
theorem triS_len (ql : AcL) (f : Slot → Option Int) (h : ql.length < 1000000) : (triL ql f).length < 4611686018427387904 := by have := triL_len ql f; omega
set_option maxHeartbeats 4000000 in
theorem booksMay (l : List At) (hR : ∀ x ∈ l, x.R) (hlm : l.length ≤ maxLen) (more : List Ent) (hRm : ∀ e ∈ more, e.R) : Pure 6 [.sl (ats l), .sl (entR more)] (.bool true) := by
  intro S tk
  have hla := ats_len l
  have hlb : (entR more).length = more.length := by simp [entR]
  have hgr := great l hlm
  by_cases hbig : greatB l = true ∨ (more.length : Int) > 8
  · cases hg : greatB l with
    | true =>
      rw [hg] at hgr
      refine ACalls.fgo c6 rfl fun hS => ?_
      repeat' first | with_reducible refine fzD_ite (fun q => ?_) (fun q => ?_) | ((try conv => whnf); first | refine bs_d (fun q => ?_) (fun q => ?_) | refine bs_n ?_ | refine bs_i (fun q => ?_) (fun q => ?_) | refine ckz (hgr) ?_ | refine cq (hgr) ?_ | refine ckz (head_b) ?_ | refine cq (head_b) ?_ | refine eqk rfl ?_ | refine ffin _ rfl rfl hS (Sub.refl _) rfl ⟨?_, rfl, rfl⟩)
      all_goals rfl
    | false =>
      rw [hg] at hgr hbig
      have h8 : (more.length : Int) > 8 := by simpa using hbig
      refine ACalls.fgo c6 rfl fun hS => ?_
      repeat' first | with_reducible refine fzD_ite (fun q => ?_) (fun q => ?_) | ((try conv => whnf); first | refine bs_t (decide_eq_true (show ((entR more).length : Int) > 8 by omega)) ?_ | refine bs_d (fun q => ?_) (fun q => ?_) | refine bs_n ?_ | refine bs_i (fun q => ?_) (fun q => ?_) | refine ckz (hgr) ?_ | refine cq (hgr) ?_ | refine ckz (head_b) ?_ | refine cq (head_b) ?_ | refine eqk rfl ?_ | refine ffin _ rfl rfl hS (Sub.refl _) rfl ⟨?_, rfl, rfl⟩)
      all_goals rfl
  have hg : greatB l = false := by cases h : greatB l with | true => exact absurd (.inl h) hbig | false => rfl
  rw [hg] at hgr
  have h8 : ¬ (more.length : Int) > 8 := fun h => hbig (.inr h)
  have h16 : l.length ≤ 16 := by
    unfold greatB at hg
    simp only [Bool.or_eq_false_iff, decide_eq_false_iff_not] at hg
    omega
  refine ACalls.fgo c6 rfl fun hS => ?_
  repeat' first | with_reducible refine fzD_ite (fun q => ?_) (fun q => ?_) | ((try conv => whnf); first | refine bs_f (decide_eq_false (show ¬ ((entR more).length : Int) > 8 by omega)) ?_ | refine bs_d (fun q => ?_) (fun q => ?_) | refine bs_n ?_ | refine bs_i (fun q => ?_) (fun q => ?_) | refine ckz (hgr) ?_ | refine cq (hgr) ?_ | (refine ckNE (G := fun r o => r = .po (S.length + 1) 0 ∧ Ch (look stdB) o) (Jn := fun o => [o, .arr [.map S.length]]) (ds' := []) rfl rfl (std_atB (by simp)) .nil ?_; rintro r o ⟨rfl, hch⟩) | (refine ckN (d := .po (S.length + 2 + 1) 0) (Jn := [.map kSl (MG.entKv sD []) 0, .arr [.po (S.length + 1) 0, .nilsl, .map (S.length + 2), .int .i64 0]]) rfl rfl (new_at (by simp)) ?_; have hB0 := bk_new (S := S) hch stdB_ok.1 stdB_ok.2) | refine eqk rfl ?_ | refine ffin _ rfl rfl hS (Sub.refl _) rfl ⟨?_, rfl, rfl⟩)
  conv => whnf
  refine floop (α := BmS) rfl rfl hS (fun s => s.i ≤ l.length ∧ s.E.length ≤ s.i ∧ BkR (S ++ s.J) S.length (S.length + 3) (S.length + 1) S.length (S.length + 2) stdB s.f s.E s.cl) (fun s => l.length - s.i) (fun s => [(6, .d (.int .i64 s.i)), (5, .d (.po (S.length + 3) 0)), (0, .d (.sl (ats l))), (1, .d (.sl (entR more)))]) (fun s => s.J) (fun _ => []) ⟨0, _, noneF, [], 0⟩ ⟨Nat.zero_le _, Nat.le_refl _, hB0⟩ (fstep_sub ⟨Sub.refl _, Sub.refl _, Sub.refl _, Sub.refl _, trivial⟩) ?_
  rintro ⟨i, J, f, E, cl⟩ ⟨hi, hE, hB⟩
  simp only at hi hE hB ⊢
  by_cases hlt : i < l.length
  · have hx := hR _ (mem_at hlt)
    have hmod : IntKind.wrap .u8 ((l[i]!).what) = (l[i]!).what ∨ True := .inr trivial
    by_cases hw : (l[i]!).what.tmod 4 = 1
    · skip
      repeat' first | with_reducible refine fzD_ite (fun q => ?_) (fun q => ?_) | ((try conv => whnf); first | refine bs_t (decide_eq_true (show (i : Int) < (ats l).length by omega)) ?_ | refine bs_t (decide_eq_true hw) ?_ | refine bs_d (fun q => ?_) (fun q => ?_) | refine bs_n ?_ | refine bs_i (fun q => ?_) (fun q => ?_) | refine pK_i (iaD_at (i := i) rfl hlt) ?_ | (refine ckBk rfl rfl (closeK hB (l[i]!).mo) (SubL.refl _) ?_; rintro r J2 ⟨rfl, hB2⟩) | refine eqk rfl ?_ | refine ffin _ rfl rfl hS (Sub.refl _) rfl ⟨?_, rfl, rfl⟩)
      conv => whnf
      exact fnext (α := BmS) ⟨i + 1, J2, f, E, _⟩ ⟨by simp only; omega, by simp only; omega, hB2⟩ (by simp only; omega) (fstep_sub ⟨Sub.int (by first | rfl | omega | (refine Int.sub_eq_zero.mp ?_; simp (disch := ((try unfold I64); omega)) only [wi64_id, td]; omega)), Sub.refl _, Sub.refl _, Sub.refl _, trivial⟩)
    · skip
      repeat' first | with_reducible refine fzD_ite (fun q => ?_) (fun q => ?_) | ((try conv => whnf); first | refine bs_t (decide_eq_true (show (i : Int) < (ats l).length by omega)) ?_ | refine bs_f (decide_eq_false hw) ?_ | refine bs_d (fun q => ?_) (fun q => ?_) | refine bs_n ?_ | refine bs_i (fun q => ?_) (fun q => ?_) | refine pK_i (iaD_at (i := i) rfl hlt) ?_ | (refine ckBk rfl rfl (postA hB (l[i]!).e hx.e (by omega)) (SubL.refl _) ?_; rintro r J2 ⟨rfl, hB2, -⟩) | refine eqk rfl ?_ | refine ffin _ rfl rfl hS (Sub.refl _) rfl ⟨?_, rfl, rfl⟩)
      conv => whnf
      exact fnext (α := BmS) ⟨i + 1, J2, nextF stdB f cl (l[i]!).e, nextE stdB f cl E (l[i]!).e, cl⟩ ⟨by simp only; omega, by have := nextE_len stdB f cl E (l[i]!).e; simp only; omega, hB2⟩ (by simp only; omega) (fstep_sub ⟨Sub.int (by first | rfl | omega | (refine Int.sub_eq_zero.mp ?_; simp (disch := ((try unfold I64); omega)) only [wi64_id, td]; omega)), Sub.refl _, Sub.refl _, Sub.refl _, trivial⟩)
  have hmod : (fun (i : Nat) => i) 0 = 0 := rfl
  repeat' first | with_reducible refine fzD_ite (fun q => ?_) (fun q => ?_) | ((try conv => whnf); first | refine bs_f (decide_eq_false (show ¬ (i : Int) < (ats l).length by omega)) ?_ | refine bs_d (fun q => ?_) (fun q => ?_) | refine bs_n ?_ | refine bs_i (fun q => ?_) (fun q => ?_) | refine eqk rfl ?_ | refine ffin _ rfl rfl hS (Sub.refl _) rfl ⟨?_, rfl, rfl⟩)
  conv => whnf
  refine floop (α := Nat) rfl rfl hS (fun k => k ≤ more.length) (fun k => more.length - k) (fun k => [(7, .d (.int .i64 k)), (5, .d (.po (S.length + 3) 0)), (1, .d (.sl (entR more)))]) (fun _ => J) (fun _ => []) 0 (Nat.zero_le _) (fstep_sub ⟨Sub.refl _, Sub.refl _, Sub.refl _, trivial⟩) ?_
  intro k hk
  have hll : ∀ e : Ent, (lns e.L).length = e.L.length := fun e => lns_len e.L
  by_cases hkl : k < more.length
  · have hat := List.getElem?_eq_getElem hkl
    have hix := iaD_en (l := more) (i := k) (n := (k : Int)) rfl hat
    have hl2 := hll more[k]
    by_cases h20 : (more[k].L.length : Int) > 20
    · skip
      repeat' first | with_reducible refine fzD_ite (fun q => ?_) (fun q => ?_) | ((try conv => whnf); first | refine bs_t (decide_eq_true (show (k : Int) < (entR more).length by omega)) ?_ | refine bs_t (decide_eq_true (show ((lns more[k].L).length : Int) > 20 by omega)) ?_ | refine bs_d (fun q => ?_) (fun q => ?_) | refine bs_n ?_ | refine bs_i (fun q => ?_) (fun q => ?_) | refine pK_i hix ?_ | refine ckz (head_b) ?_ | refine cq (head_b) ?_ | refine eqk rfl ?_ | refine ffin _ rfl rfl hS (Sub.refl _) rfl ⟨?_, rfl, rfl⟩)
      all_goals rfl
    · skip
      repeat' first | with_reducible refine fzD_ite (fun q => ?_) (fun q => ?_) | ((try conv => whnf); first | refine bs_t (decide_eq_true (show (k : Int) < (entR more).length by omega)) ?_ | refine bs_f (decide_eq_false (show ¬ ((lns more[k].L).length : Int) > 20 by omega)) ?_ | refine bs_d (fun q => ?_) (fun q => ?_) | refine bs_n ?_ | refine bs_i (fun q => ?_) (fun q => ?_) | refine pK_i hix ?_ | refine eqk rfl ?_ | refine ffin _ rfl rfl hS (Sub.refl _) rfl ⟨?_, rfl, rfl⟩)
      conv => whnf
      exact fnext (α := Nat) (k + 1) (by omega) (by omega) (fstep_sub ⟨Sub.int (by first | rfl | omega | (refine Int.sub_eq_zero.mp ?_; simp (disch := ((try unfold I64); omega)) only [wi64_id, td]; omega)), Sub.refl _, Sub.refl _, trivial⟩)
  have hm8 : more.length ≤ 8 := by omega
  have hmay := fun (X : List O) (hX : BkR X S.length (S.length + 3) (S.length + 1) S.length (S.length + 2) stdB f E cl) (tk : Tks) => may_b (tk := tk) hX more (by omega) hRm
  obtain ⟨e0, he0⟩ : ∃ e0, e0 = postsN stdB cl f more := ⟨_, rfl⟩
  simp only [may_is, ← he0] at hmay
  have htl : (triL stdB f).length < 4611686018427387904 := by have := triL_len stdB f; have := stdB_ok.2; omega
  have hsm := sameB (triL stdB f) (triL stdB f) htl htl
  rw [decide_eq_true rfl] at hsm
  repeat' first | with_reducible refine fzD_ite (fun q => ?_) (fun q => ?_) | ((try conv => whnf); first | refine bs_f (decide_eq_false (show ¬ (k : Int) < (entR more).length by omega)) ?_ | refine bs_t (decide_eq_true rfl) ?_ | refine bs_d (fun q => ?_) (fun q => ?_) | refine bs_n ?_ | refine bs_i (fun q => ?_) (fun q => ?_) | refine ckA rfl rfl (lenK hB) ?_ | refine ckA rfl rfl (triK hB rfl) ?_ | refine ckA rfl rfl (hmay _ hB _) ?_ | refine ckz (hsm) ?_ | refine cq (hsm) ?_ | refine eqk rfl ?_ | refine ffin _ rfl rfl hS (Sub.refl _) rfl ⟨?_, rfl, rfl⟩)
  conv => whnf
  refine floop (α := BmS) rfl rfl hS (fun s => s.i ≤ more.length ∧ s.E.length ≤ i + s.i ∧ e0 = postsN stdB cl s.f (more.drop s.i) ∧ BkR (S ++ s.J) S.length (S.length + 3) (S.length + 1) S.length (S.length + 2) stdB s.f s.E cl) (fun s => more.length - s.i) (fun s => [(11, .d (.int .i64 s.i)), (5, .d (.po (S.length + 3) 0)), (1, .d (.sl (entR more))), (10, .d (.int .i64 e0))]) (fun s => s.J) (fun _ => []) ⟨0, J, f, E, 0⟩ ⟨Nat.zero_le _, hE, he0, hB⟩ (fstep_sub ⟨Sub.refl _, Sub.refl _, Sub.refl _, Sub.refl _, trivial⟩) ?_
  rintro ⟨j, J3, f3, E3, z3⟩ ⟨hj, hE3, hp3, hB3⟩
  simp only at hj hE3 hp3 hB3 ⊢
  by_cases hjl : j < more.length
  · have hat := List.getElem?_eq_getElem hjl
    have hix := iaD_en (l := more) (i := j) (n := (j : Int)) rfl hat
    have hRe := hRm _ (List.getElem_mem hjl)
    rw [List.drop_eq_getElem_cons hjl, postsN] at hp3
    generalize more[j] = e at hat hix hRe hp3
    have hpa := postA (tk := tk) hB3 e hRe (by omega)
    obtain ⟨n, hn⟩ : ∃ n, n = postN stdB f3 cl e := ⟨_, rfl⟩
    obtain ⟨num, hnum⟩ : ∃ n, n = numP stdB f3 cl E3 e := ⟨_, rfl⟩
    have hlE := nextE_len stdB f3 cl E3 e
    rw [← hn] at hp3
    by_cases h0 : n = 0
    · rw [if_neg (by simp [h0])] at hp3
      have hf' : nextF stdB f3 cl e = postF f3 e := if_pos (by rw [← hn]; exact h0)
      rw [← hn, ← hnum, h0] at hpa
      rw [← hf'] at hp3
      repeat' first | with_reducible refine fzD_ite (fun q => ?_) (fun q => ?_) | ((try conv => whnf); first | refine bs_t (decide_eq_true (show (j : Int) < (entR more).length by omega)) ?_ | refine bs_t (decide_eq_true rfl) ?_ | refine bs_d (fun q => ?_) (fun q => ?_) | refine bs_n ?_ | refine bs_i (fun q => ?_) (fun q => ?_) | refine pK_i hix ?_ | (refine ckBk rfl rfl (by rw [List.append_nil]; exact hpa) (SubL.refl _) ?_; rintro r J4 ⟨rfl, hB4, -⟩) | refine eqk rfl ?_ | refine ffin _ rfl rfl hS (Sub.refl _) rfl ⟨?_, rfl, rfl⟩)
      conv => whnf
      exact fnext (α := BmS) ⟨j + 1, J4, nextF stdB f3 cl e, nextE stdB f3 cl E3 e, 0⟩ ⟨by simp only; omega, by simp only; omega, hp3, hB4⟩ (by simp only; omega) (fstep_sub ⟨Sub.int (by first | rfl | omega | (refine Int.sub_eq_zero.mp ?_; simp (disch := ((try unfold I64); omega)) only [wi64_id, td]; omega)), Sub.refl _, Sub.refl _, Sub.refl _, trivial⟩)
    · rw [if_pos (by simpa using h0)] at hp3
      rw [← hn, ← hnum] at hpa
      subst hp3
      repeat' first | with_reducible refine fzD_ite (fun q => ?_) (fun q => ?_) | ((try conv => whnf); first | refine bs_t (decide_eq_true (show (j : Int) < (entR more).length by omega)) ?_ | refine bs_f (decide_eq_false h0) ?_ | refine bs_t (decide_eq_true rfl) ?_ | refine bs_d (fun q => ?_) (fun q => ?_) | refine bs_n ?_ | refine bs_i (fun q => ?_) (fun q => ?_) | refine pK_i hix ?_ | (refine ckBk rfl rfl (by rw [List.append_nil]; exact hpa) (SubL.refl _) ?_; rintro r J4 ⟨rfl, hB4, -⟩) | refine ckz (head_b) ?_ | refine cq (head_b) ?_ | refine eqk rfl ?_ | refine ffin _ rfl rfl hS (Sub.refl _) rfl ⟨?_, rfl, rfl⟩)
      all_goals rfl
  · rw [List.drop_of_length_le (by omega), postsN] at hp3
    subst hp3
    repeat' first | with_reducible refine fzD_ite (fun q => ?_) (fun q => ?_) | ((try conv => whnf); first | refine bs_f (decide_eq_false (show ¬ (j : Int) < (entR more).length by omega)) ?_ | refine bs_t (decide_eq_true rfl) ?_ | refine bs_d (fun q => ?_) (fun q => ?_) | refine bs_n ?_ | refine bs_i (fun q => ?_) (fun q => ?_) | refine ckz (head_b) ?_ | refine cq (head_b) ?_ | refine eqk rfl ?_ | refine ffin _ rfl rfl hS (Sub.refl _) rfl ⟨?_, rfl, rfl⟩)
    all_goals rfl
end Go.KL.YtkojphmejddhiaaDoor.J

/- acts on books, read -/
set_option linter.unusedVariables false
set_option linter.unusedSimpArgs false
set_option maxRecDepth 100000
set_option maxHeartbeats 4000000
namespace Go.KL.YtkojphmejddhiaaDoor.J
open Go Go.KL Go.RowKit Go.Proofs Go.Proofs.YtkojphmejddhiaaDoor Go.ChangeShapes Go.WideShapes Go.KL.YtkojphmejddhiaaDoor

def shAcB : Sh := .agg [.int .i64, .int .i64, .int .u8, .str, .bool]
def shAtB : Sh := .agg [.int .u8, shEnt, .int .i64, shAcB]
theorem ok_at {H : Type} {d : DataW H} (h : shAtB.ok d) : ∃ x : At, x.R ∧ shAtB.cells d = x.cs := by
  obtain ⟨parts, rfl, d1, _, rfl, ⟨n1, rfl, w1⟩, d2, _, rfl, h2, d3, _, rfl, ⟨n3, rfl, w3⟩, d4, _, rfl, h4, rfl⟩ := h
  obtain ⟨e, hR, hcs⟩ := ok_ent h2
  obtain ⟨parts, rfl, a1, _, rfl, ⟨m1, rfl, v1⟩, a2, _, rfl, ⟨m2, rfl, v2⟩, a3, _, rfl, ⟨m3, rfl, v3⟩, a4, _, rfl, ⟨s4, rfl, v4⟩, a5, _, rfl, ⟨b5, rfl⟩, rfl⟩ := h4
  refine ⟨⟨n1, e, n3, ⟨m1, m2, m3, ⟨s4.toArray⟩, b5⟩⟩, ⟨ok_u8 w1, hR, ok_i64 w3⟩, ?_⟩
  show Sh.cells (.int .u8) _ ++ (shEnt.cells d2 ++ _) = _
  rw [hcs]; rfl
end Go.KL.YtkojphmejddhiaaDoor.J

/- BooksStay -/
set_option linter.unusedVariables false
set_option linter.unusedSimpArgs false
set_option linter.unusedSectionVars false
set_option maxRecDepth 4000
namespace Go.KL.YtkojphmejddhiaaDoor.J
open Go Go.KL Go.RowKit Go.Proofs Go.KL.YtkojphmejddhiaaDoor

theorem c3 : cFun E0.P 3 = some ⟨151, [(6, none)], .seq (.rg [⟨some 6, none, .mv (.k (.bool false))⟩]) (.seq (.seq (.rg [⟨some 19, none, .mv (.t 0)⟩, ⟨some 20, none, .call 8 [.t 19]⟩]) (.cond (.t 20) (.seq (.rg [⟨some 21, none, .call 9 []⟩, ⟨some 6, none, .mv (.t 21)⟩]) .ret) .skip)) (.seq (.rg [⟨some 22, none, .call 10 []⟩, ⟨some 7, none, .mv (.t 22)⟩]) (.seq (.rg [⟨some 23, none, .mv (.t 7)⟩, ⟨some 24, none, .call 11 [.t 23]⟩, ⟨some 8, none, .mv (.t 24)⟩]) (.seq (.seq (.rg [⟨some 9, none, .mv (.k (.int .i64 0))⟩]) (.block 0 (.loop (.seq (.seq (.rg [⟨some 25, none, .mv (.t 9)⟩, ⟨some 26, none, .mv (.t 0)⟩, ⟨some 27, none, .len 1 (.t 26)⟩, ⟨some 28, none, .bin .lss .leaf (.t 25) (.t 27)⟩]) (.cond (.t 28) .skip (.exit 0))) (.seq (.block 1 (.seq (.rg [⟨some 31, none, .mv (.t 0)⟩, ⟨some 32, none, .mv (.t 9)⟩, ⟨some 33, none, .ia 11 (.t 31) (.t 32)⟩, ⟨some 34, none, .ld 11 true (.t 33)⟩, ⟨some 10, none, .alloc [.int .u8 0, .int .i64 0, .int .u8 0, .int .u64 0, .nilsl, .int .i64 0, .int .i64 0, .int .i64 0, .int .u8 0, .str ⟨#[]⟩, .bool false] 36⟩, ⟨none, none, .st 11 (.t 10) (.t 34)⟩]) (.seq (.rg [⟨some 35, none, .mv (.t 8)⟩, ⟨some 36, none, .call 12 [.t 35]⟩, ⟨some 37, none, .mv (.t 8)⟩, ⟨some 38, none, .call 13 [.t 37]⟩, ⟨some 39, none, .mv (.t 8)⟩, ⟨some 40, none, .mv (.t 1)⟩, ⟨some 41, none, .mv (.t 2)⟩, ⟨some 42, none, .call 14 [.t 39, .t 40, .t 41]⟩, ⟨some 11, none, .mv (.t 36)⟩, ⟨some 12, none, .mv (.t 38)⟩, ⟨some 13, none, .mv (.t 42)⟩]) (.seq (.rg [⟨some 43, none, .mv (.t 2)⟩, ⟨some 44, none, .mv (.t 8)⟩, ⟨some 45, none, .call 15 [.t 44]⟩, ⟨some 46, none, .bin .leq .leaf (.t 43) (.t 45)⟩, ⟨some 14, none, .mv (.t 46)⟩]) (.seq (.seq (.rg [⟨some 47, none, .fa 0 (.t 10)⟩, ⟨some 48, none, .ld 1 false (.t 47)⟩, ⟨some 49, none, .bin .rem .leaf (.t 48) (.k (.int .u8 4))⟩, ⟨some 50, none, .bin .eql .leaf (.t 49) (.k (.int .u8 1))⟩]) (.cond (.t 50) (.seq (.rg [⟨some 51, none, .mv (.t 8)⟩, ⟨some 52, none, .call 15 [.t 51]⟩, ⟨some 15, none, .mv (.t 52)⟩]) (.seq (.rg [⟨some 53, none, .mv (.t 8)⟩, ⟨some 54, none, .fa 5 (.t 10)⟩, ⟨some 55, none, .ld 1 false (.t 54)⟩, ⟨some 56, none, .call 16 [.t 53, .t 55]⟩, ⟨some 16, none, .mv (.t 56)⟩]) (.seq (.seq (.rg [⟨some 57, none, .mv (.t 16)⟩, ⟨some 58, none, .bin .eql .leaf (.t 57) (.k (.int .i64 0))⟩, ⟨some 59, none, .fa 5 (.t 10)⟩, ⟨some 60, none, .ld 1 false (.t 59)⟩, ⟨some 61, none, .mv (.t 15)⟩, ⟨some 62, none, .bin .gtr .leaf (.t 60) (.t 61)⟩, ⟨some 63, none, .mv (.t 62)⟩, ⟨some 64, some (63, true), .fa 5 (.t 10)⟩, ⟨some 65, some (63, true), .ld 1 false (.t 64)⟩, ⟨some 66, some (63, true), .bin .leq .leaf (.t 65) (.k (.int .i64 119988))⟩, ⟨some 67, none, .pick (.t 63) (.t 66) (.k (.bool false))⟩, ⟨some 68, none, .mv (.t 67)⟩, ⟨some 69, some (68, true), .fa 5 (.t 10)⟩, ⟨some 70, some (68, true), .ld 1 false (.t 69)⟩, ⟨some 71, some (68, true), .bin .geq .leaf (.t 70) (.k (.int .i64 1))⟩, ⟨some 72, none, .pick (.t 68) (.t 71) (.k (.bool false))⟩, ⟨some 73, none, .bin .neq .leafB (.t 58) (.t 72)⟩, ⟨some 74, none, .mv (.t 73)⟩, ⟨some 75, some (74, false), .mv (.t 16)⟩, ⟨some 76, some (74, false), .bin .neq .leaf (.t 75) (.k (.int .i64 0))⟩, ⟨some 77, some (74, false), .mv (.t 76)⟩, ⟨some 78, some (77, true), .mv (.t 8)⟩, ⟨some 79, some (77, true), .call 15 [.t 78]⟩, ⟨some 80, some (77, true), .mv (.t 15)⟩, ⟨some 81, some (77, true), .bin .neq .leaf (.t 79) (.t 80)⟩, ⟨some 82, some (74, false), .pick (.t 77) (.t 81) (.k (.bool false))⟩, ⟨some 83, none, .pick (.t 74) (.k (.bool true)) (.t 82)⟩, ⟨some 84, none, .mv (.t 83)⟩, ⟨some 85, some (84, false), .mv (.t 8)⟩, ⟨some 86, some (84, false), .call 13 [.t 85]⟩, ⟨some 87, some (84, false), .mv (.t 12)⟩, ⟨some 88, some (84, false), .bin .neq .leaf (.t 86) (.t 87)⟩, ⟨some 89, none, .pick (.t 84) (.k (.bool true)) (.t 88)⟩, ⟨some 90, none, .mv (.t 89)⟩, ⟨some 91, some (90, false), .mv (.t 8)⟩, ⟨some 92, some (90, false), .call 12 [.t 91]⟩, ⟨some 93, some (90, false), .mv (.t 11)⟩, ⟨some 94, some (90, false), .call 17 [.t 92, .t 93]⟩, ⟨some 95, some (90, false), .un .not (.t 94)⟩, ⟨some 96, none, .pick (.t 90) (.k (.bool true)) (.t 95)⟩]) (.cond (.t 96) (.seq (.rg [⟨some 6, none, .mv (.k (.bool false))⟩]) .ret) .skip)) (.exit 1)))) .skip)) (.seq (.rg [⟨some 98, none, .mv (.t 8)⟩, ⟨some 99, none, .fa 1 (.t 10)⟩, ⟨some 100, none, .ld 4 true (.t 99)⟩, ⟨some 101, none, .call 18 [.t 98, .t 100]⟩, ⟨some 97, none, .mv (.t 101)⟩, ⟨some 102, none, .ext 0 (.t 97)⟩, ⟨some 103, none, .ext 1 (.t 97)⟩, ⟨some 17, none, .mv (.t 102)⟩, ⟨some 18, none, .mv (.t 103)⟩]) (.seq (.seq (.rg [⟨some 104, none, .mv (.t 18)⟩, ⟨some 105, none, .bin .neq .leaf (.t 104) (.k (.int .i64 0))⟩, ⟨some 106, none, .mv (.t 105)⟩, ⟨some 107, some (106, true), .mv (.t 17)⟩, ⟨some 108, some (106, true), .bin .neq .leaf (.t 107) (.k (.int .u64 0))⟩, ⟨some 109, some (106, true), .mv (.t 108)⟩, ⟨some 110, some (109, false), .mv (.t 8)⟩, ⟨some 111, some (109, false), .call 13 [.t 110]⟩, ⟨some 112, some (109, false), .mv (.t 12)⟩, ⟨some 113, some (109, false), .bin .neq .leaf (.t 111) (.t 112)⟩, ⟨some 114, some (106, true), .pick (.t 109) (.k (.bool true)) (.t 113)⟩, ⟨some 115, some (106, true), .mv (.t 114)⟩, ⟨some 116, some (115, false), .mv (.t 8)⟩, ⟨some 117, some (115, false), .call 12 [.t 116]⟩, ⟨some 118, some (115, false), .mv (.t 11)⟩, ⟨some 119, some (115, false), .call 17 [.t 117, .t 118]⟩, ⟨some 120, some (115, false), .un .not (.t 119)⟩, ⟨some 121, some (106, true), .pick (.t 115) (.k (.bool true)) (.t 120)⟩, ⟨some 122, none, .pick (.t 106) (.t 121) (.k (.bool false))⟩, ⟨some 123, none, .mv (.t 122)⟩, ⟨some 124, some (123, false), .mv (.t 18)⟩, ⟨some 125, some (123, false), .bin .eql .leaf (.t 124) (.k (.int .i64 0))⟩, ⟨some 126, some (123, false), .mv (.t 125)⟩, ⟨some 127, some (126, true), .mv (.t 8)⟩, ⟨some 128, some (126, true), .call 13 [.t 127]⟩, ⟨some 129, some (126, true), .mv (.t 12)⟩, ⟨some 130, some (126, true), .bin .add .leaf (.t 129) (.k (.int .i64 1))⟩, ⟨some 131, some (126, true), .bin .neq .leaf (.t 128) (.t 130)⟩, ⟨some 132, some (126, true), .mv (.t 131)⟩, ⟨some 133, some (132, false), .mv (.t 17)⟩, ⟨some 134, some (132, false), .mv (.t 12)⟩, ⟨some 135, some (132, false), .bin .add .leaf (.t 134) (.k (.int .i64 1))⟩, ⟨some 136, some (132, false), .conv .u64 (.t 135)⟩, ⟨some 137, some (132, false), .bin .neq .leaf (.t 133) (.t 136)⟩, ⟨some 138, some (126, true), .pick (.t 132) (.k (.bool true)) (.t 137)⟩, ⟨some 139, some (123, false), .pick (.t 126) (.t 138) (.k (.bool false))⟩, ⟨some 140, none, .pick (.t 123) (.k (.bool true)) (.t 139)⟩]) (.cond (.t 140) (.seq (.rg [⟨some 6, none, .mv (.k (.bool false))⟩]) .ret) .skip)) (.seq (.rg [⟨some 141, none, .mv (.t 14)⟩, ⟨some 142, none, .mv (.t 141)⟩, ⟨some 143, some (142, true), .mv (.t 8)⟩, ⟨some 144, some (142, true), .mv (.t 1)⟩, ⟨some 145, some (142, true), .mv (.t 2)⟩, ⟨some 146, some (142, true), .call 14 [.t 143, .t 144, .t 145]⟩, ⟨some 147, some (142, true), .mv (.t 13)⟩, ⟨some 148, some (142, true), .bin .neq .leaf (.t 146) (.t 147)⟩, ⟨some 149, none, .pick (.t 142) (.t 148) (.k (.bool false))⟩]) (.cond (.t 149) (.seq (.rg [⟨some 6, none, .mv (.k (.bool false))⟩]) .ret) .skip))))))))) (.rg [⟨some 29, none, .mv (.t 9)⟩, ⟨some 30, none, .bin .add .leaf (.t 29) (.k (.int .i64 1))⟩, ⟨some 9, none, .mv (.t 30)⟩])))))) (.seq (.rg [⟨some 150, none, .call 9 []⟩, ⟨some 6, none, .mv (.t 150)⟩]) .ret)))))⟩ := by kernel_rfl

section
variable {X : List O} {tk : Tks} {lo bid cid kid mid : Nat} {ql : AcL} {f : Slot → Option Int} {E : List Ent} {closed : Int}
/-- the last closed month behind Close -/
def clN (closed month : Int) : Int := if closeN closed month = 0 then month else closed
theorem closeA (h : BkR X lo bid cid kid mid ql f E closed) (month : Int) : ACalls E0 16 [.po bid 0, .int .i64 month] X tk (fun r X' tk' => (r = .int .i64 (closeN closed month) ∧ BkR X' lo bid cid kid mid ql f E (clN closed month) ∧ Keeps lo bid mid X X') ∧ ((∀ id, id < lo → X'[id]? = X[id]?) ∧ lo ≤ X'.length) ∧ tk' = tk) := by
  obtain ⟨vid, hb, hB⟩ := bk_close h month
  have hbl := (List.getElem?_eq_some_iff.1 hb).1
  have hlo := h.lo.1
  refine (close_b hb month).mono ?_
  rintro r X' tk' ⟨rfl, rfl, rfl⟩
  unfold clN
  by_cases hc : closeN closed month = 0
  · rw [if_pos hc, if_pos hc]
    exact ⟨⟨rfl, hB, ⟨by simp, fun id hi => List.getElem?_set_ne (by omega), fun id o ho hne _ _ => by rw [List.getElem?_set_ne (Ne.symm hne)]; exact ho⟩⟩, ⟨fun id hi => List.getElem?_set_ne (by omega), by rw [List.length_set]; omega⟩, rfl⟩
  · rw [if_neg hc, if_neg hc]
    exact ⟨⟨rfl, h, Keeps.refl ..⟩, ⟨fun id hi => rfl, by omega⟩, rfl⟩
/-- an object of the law's own stays -/
theorem Keeps.own {S J J' : List O} {k : Nat} {cs : List D} (h : Keeps lo bid mid (S ++ J) (S ++ J')) (hk : J[k]? = some (.arr cs)) (h1 : S.length + k ≠ bid) (h2 : S.length + k ≠ mid) : J'[k]? = some (.arr cs) := by
  have := h.el (S.length + k) (.arr cs) (by rw [lk]; exact hk) h1 h2 (fun _ _ _ h => by cases h)
  rwa [lk] at this
end
theorem BkR.app {X : List O} {lo bid cid kid mid : Nat} {ql : AcL} {f : Slot → Option Int} {E : List Ent} {closed : Int} (h : BkR X lo bid cid kid mid ql f E closed) (J : List O) : BkR (X ++ J) lo bid cid kid mid ql f E closed := by
  obtain ⟨vid, ety, hb, hv⟩ := h.b
  obtain ⟨oc, hk, hch⟩ := h.k
  obtain ⟨om, hm, hf⟩ := h.m
  exact ⟨⟨vid, ety, at_old hb, fun hE => ⟨at_old (hv hE).1, (hv hE).2⟩⟩, at_old h.c, ⟨oc, at_old hk, hch⟩, ⟨om, at_old hm, hf⟩, h.ok, h.lq, h.lo, h.I⟩
theorem BkR.own {S J : List O} {lo bid cid kid mid : Nat} {ql : AcL} {f : Slot → Option Int} {E : List Ent} {closed : Int} (h : BkR (S ++ J) lo bid cid kid mid ql f E closed) (o : O) : BkR (S ++ (J ++ [o])) lo bid cid kid mid ql f E closed := by
  rw [← List.append_assoc]; exact h.app _
theorem set_last {α : Type} (l : List α) (a b : α) : (l ++ [a]).set l.length b = l ++ [b] := by
  rw [List.set_append_right _ _ (Nat.le_refl _), Nat.sub_self]; rfl
theorem mem_last {α : Type} (l : List α) (a : α) : (l ++ [a])[l.length]? = some a := List.getElem?_concat_length
theorem close0 {cl mo : Int} : closeN cl mo = 0 ↔ (1 ≤ mo ∧ mo ≤ 119988 ∧ cl < mo) := by
  unfold closeN; split
  · constructor
    · intro h; cases h
    · intro h; omega
  · split
    · constructor
      · intro h; cases h
      · intro h; omega
    · constructor
      · intro _; omega
      · intro _; rfl
set_option maxHeartbeats 4000000 in
theorem booksStay (l : List At) (hR : ∀ x ∈ l, x.R) (hlm : l.length ≤ maxLen) (account month : Int) (hm : I64 month) : Pure 3 [.sl (ats l), .int .i64 account, .int .i64 month] (.bool true) := by
  intro S tk
  have hla := ats_len l
  have hgr := great l hlm
  cases hg : greatB l with
  | true =>
    rw [hg] at hgr
    refine ACalls.fgo c3 rfl fun hS => ?_
    repeat' first | with_reducible refine fzD_ite (fun q => ?_) (fun q => ?_) | ((try conv => whnf); first | refine bs_d (fun q => ?_) (fun q => ?_) | refine bs_n ?_ | refine bs_i (fun q => ?_) (fun q => ?_) | refine ckz (hgr) ?_ | refine cq (hgr) ?_ | refine ckz (head_b) ?_ | refine cq (head_b) ?_ | refine eqk rfl ?_ | refine ffin _ rfl rfl hS (Sub.refl _) rfl ⟨?_, rfl, rfl⟩)
    all_goals rfl
  | false =>
  rw [hg] at hgr
  have h16 : l.length ≤ 16 := by
    unfold greatB at hg
    simp only [Bool.or_eq_false_iff, decide_eq_false_iff_not] at hg
    omega
  refine ACalls.fgoC c3 rfl [11] rfl fun hS => ?_
  repeat' first | with_reducible refine fzD_ite (fun q => ?_) (fun q => ?_) | ((try conv => whnf); first | refine bs_d (fun q => ?_) (fun q => ?_) | refine bs_n ?_ | refine bs_i (fun q => ?_) (fun q => ?_) | refine ckz (hgr) ?_ | refine cq (hgr) ?_ | (refine ckNE (G := fun r o => r = .po (S.length + 1) 0 ∧ Ch (look stdB) o) (Jn := fun o => [o, .arr [.map S.length]]) (ds' := []) rfl rfl (std_atB (by simp)) .nil ?_; rintro r o ⟨rfl, hch⟩) | (refine ckN (d := .po (S.length + 2 + 1) 0) (Jn := [.map kSl (MG.entKv sD []) 0, .arr [.po (S.length + 1) 0, .nilsl, .map (S.length + 2), .int .i64 0]]) rfl rfl (new_at (by simp)) ?_; have hB0 := bk_new (S := S) hch stdB_ok.1 stdB_ok.2) | refine eqk rfl ?_ | refine ffin _ rfl rfl hS (Sub.refl _) rfl ⟨?_, rfl, rfl⟩)
  conv => whnf
  refine floop (α := BmS) rfl rfl hS (fun s => s.i ≤ l.length ∧ s.E.length ≤ s.i ∧ 4 ≤ s.J.length ∧ BkR (S ++ s.J) S.length (S.length + 3) (S.length + 1) S.length (S.length + 2) stdB s.f s.E s.cl) (fun s => l.length - s.i) (fun s => [(9, .d (.int .i64 s.i)), (8, .d (.po (S.length + 3) 0)), (0, .d (.sl (ats l))), (1, .d (.int .i64 account)), (2, .d (.int .i64 month))]) (fun s => s.J) (fun _ => []) ⟨0, _, noneF, [], 0⟩ ⟨Nat.zero_le _, Nat.le_refl _, (by exact Nat.le_refl 4), hB0⟩ (fstep_sub ⟨Sub.refl _, Sub.refl _, Sub.refl _, Sub.refl _, Sub.refl _, trivial⟩) ?_
  rintro ⟨i, J, f, E, cl⟩ ⟨hi, hE, hJ4, hB⟩
  simp only at hi hE hJ4 hB ⊢
  by_cases hlt : i < l.length
  rotate_left
  · skip
    repeat' first | with_reducible refine fzD_ite (fun q => ?_) (fun q => ?_) | ((try conv => whnf); first | refine bs_f (decide_eq_false (show ¬ (i : Int) < (ats l).length by omega)) ?_ | refine bs_d (fun q => ?_) (fun q => ?_) | refine bs_n ?_ | refine bs_i (fun q => ?_) (fun q => ?_) | refine ckz (head_b) ?_ | refine cq (head_b) ?_ | refine eqk rfl ?_ | refine ffin _ rfl rfl hS (Sub.refl _) rfl ⟨?_, rfl, rfl⟩)
    all_goals rfl
  have hx := hR _ (mem_at hlt)
  generalize hxe : l[i]! = x at hx
  have hix := iaD_at (l := l) (i := i) (n := (i : Int)) rfl hlt
  rw [hxe] at hix
  have htl : (triL stdB f).length < 4611686018427387904 := by have := triL_len stdB f; have := stdB_ok.2; omega
  have hsm := sameB (triL stdB f) (triL stdB f) htl htl
  rw [decide_eq_true rfl] at hsm
  obtain ⟨z, hz⟩ : ∃ z, z = inV f account month := ⟨_, rfl⟩
  repeat' first | with_reducible refine fzD_ite (fun q => ?_) (fun q => ?_) | ((try conv => whnf); first | refine bs_t (decide_eq_true (show (i : Int) < (ats l).length by omega)) ?_ | refine bs_d (fun q => ?_) (fun q => ?_) | refine bs_n ?_ | refine bs_i (fun q => ?_) (fun q => ?_) | refine pK_i hix ?_ | refine eqk rfl ?_ | refine ffin _ rfl rfl hS (Sub.refl _) rfl ⟨?_, rfl, rfl⟩)
  conv => whnf
  refine fcut (α := List O) rfl (fun J1 => J1 = J ++ [.arr x.cs]) (fun _ => [(9, .d (.int .i64 i)), (8, .d (.po (S.length + 3) 0)), (0, .d (.sl (ats l))), (1, .d (.int .i64 account)), (2, .d (.int .i64 month)), (10, .d (.po (S.length + J.length) 0))]) (fun _ => S) (fun J1 => J1) (fun _ => []) (fun _ _ => ⟨rfl, hS⟩) ?_ ?_
  · skip
    repeat' first | with_reducible refine fzD_ite (fun q => ?_) (fun q => ?_) | ((try conv => whnf); first | refine bs_d (fun q => ?_) (fun q => ?_) | refine bs_n ?_ | refine bs_i (fun q => ?_) (fun q => ?_) | refine pK_i hix ?_ | refine fzK_go ?_ | refine fzL_go ?_ | rw [List.getElem?_concat_length] | refine eqk rfl ?_ | refine ffin _ rfl rfl hS (Sub.refl _) rfl ⟨?_, rfl, rfl⟩)
    conv => whnf
    exact fcnext (α := List O) _ rfl rfl (fstep_J (set_last _ _ _) ⟨Sub.refl _, Sub.refl _, Sub.refl _, Sub.refl _, Sub.refl _, Sub.refl _, trivial⟩)
  intro J1 hJ1
  have hB1 : BkR (S ++ J1) S.length (S.length + 3) (S.length + 1) S.length (S.length + 2) stdB f E cl := hJ1 ▸ hB.own (.arr x.cs)
  have hk1 : J1[J.length]? = some (.arr x.cs) := by rw [hJ1]; exact mem_last _ _
  have hl1 : J1.length = J.length + 1 := by rw [hJ1]; simp
  clear hJ1
  by_cases hw : x.what.tmod 4 = 1
  · have hcl0 := close0 (cl := cl) (mo := x.mo)
    have hcA := closeA (tk := tk) hB1 x.mo
    obtain ⟨n, hn⟩ : ∃ n, n = closeN cl x.mo := ⟨_, rfl⟩
    obtain ⟨c2, hc2⟩ : ∃ c, c = clN cl x.mo := ⟨_, rfl⟩
    rw [← hn] at hcA hcl0
    rw [← hc2] at hcA
    by_cases h0 : n = 0
    · obtain ⟨m1, m2, m3⟩ := hcl0.1 h0
      subst h0
      repeat' first | with_reducible refine fzD_ite (fun q => ?_) (fun q => ?_) | ((try conv => whnf); first | refine bs_t (decide_eq_true hw) ?_ | refine bs_t (decide_eq_true m3) ?_ | refine bs_t (decide_eq_true m2) ?_ | refine bs_t (decide_eq_true m1) ?_ | refine bs_t (decide_eq_true rfl) ?_ | refine bs_d (fun q => ?_) (fun q => ?_) | refine bs_n ?_ | refine bs_i (fun q => ?_) (fun q => ?_) | refine ckA rfl rfl (triK hB2 rfl) ?_ | refine ckA rfl rfl (lenK hB2) ?_ | refine ckA rfl rfl (closedK hB2) ?_ | refine ckA rfl rfl (triK hB1 rfl) ?_ | refine ckA rfl rfl (lenK hB1) ?_ | refine ckA rfl rfl (inK hB1 account month hm hz.symm) ?_ | refine ckA rfl rfl (closedK hB1) ?_ | refine ckz (hsm) ?_ | refine cq (hsm) ?_ | refine pK_i (ldO_own (k := J.length) rfl hk2 rfl) ?_ | refine pK_i (ldO_own (k := J.length) rfl hk1 rfl) ?_ | (refine ckBk rfl rfl (by rw [List.append_nil]; exact hcA) (SubL.refl _) ?_; rintro r J2 ⟨rfl, hB2, hKp⟩; have hk2 := hKp.own hk1 (by omega) (by omega)) | refine eqk rfl ?_ | refine ffin _ rfl rfl hS (Sub.refl _) rfl ⟨?_, rfl, rfl⟩)
      all_goals first
        | (exfalso; omega)
        | (conv => whnf
           exact fnext (α := BmS) ⟨i + 1, J2, f, E, c2⟩ ⟨by simp only; omega, by simp only; omega, (by have := (List.getElem?_eq_some_iff.1 hk2).1; simp only; omega), hB2⟩ (by simp only; omega) (fstep_sub ⟨Sub.int (by first | rfl | omega | (refine Int.sub_eq_zero.mp ?_; simp (disch := ((try unfold I64); omega)) only [wi64_id, td]; omega)), Sub.refl _, Sub.refl _, Sub.refl _, Sub.refl _, trivial⟩))
    · have hc3 : c2 = cl := by rw [hc2, clN, if_neg (by rw [← hn]; exact h0)]
      have hno : ¬ (1 ≤ x.mo ∧ x.mo ≤ 119988 ∧ cl < x.mo) := fun h => h0 (hcl0.2 h)
      clear hc2
      subst hc3
      repeat' first | with_reducible refine fzD_ite (fun q => ?_) (fun q => ?_) | ((try conv => whnf); first | refine bs_t (decide_eq_true hw) ?_ | refine bs_f (decide_eq_false h0) ?_ | refine bs_t (decide_eq_true rfl) ?_ | refine bs_d (fun q => ?_) (fun q => ?_) | refine bs_n ?_ | refine bs_i (fun q => ?_) (fun q => ?_) | refine ckA rfl rfl (triK hB2 rfl) ?_ | refine ckA rfl rfl (lenK hB2) ?_ | refine ckA rfl rfl (closedK hB2) ?_ | refine ckA rfl rfl (triK hB1 rfl) ?_ | refine ckA rfl rfl (lenK hB1) ?_ | refine ckA rfl rfl (inK hB1 account month hm hz.symm) ?_ | refine ckA rfl rfl (closedK hB1) ?_ | refine ckz (hsm) ?_ | refine cq (hsm) ?_ | refine pK_i (ldO_own (k := J.length) rfl hk2 rfl) ?_ | refine pK_i (ldO_own (k := J.length) rfl hk1 rfl) ?_ | (refine ckBk rfl rfl (by rw [List.append_nil]; exact hcA) (SubL.refl _) ?_; rintro r J2 ⟨rfl, hB2, hKp⟩; have hk2 := hKp.own hk1 (by omega) (by omega)) | refine eqk rfl ?_ | refine ffin _ rfl rfl hS (Sub.refl _) rfl ⟨?_, rfl, rfl⟩)
      all_goals first
        | (exfalso; omega)
        | (conv => whnf
           exact fnext (α := BmS) ⟨i + 1, J2, f, E, c2⟩ ⟨by simp only; omega, by simp only; omega, (by have := (List.getElem?_eq_some_iff.1 hk2).1; simp only; omega), hB2⟩ (by simp only; omega) (fstep_sub ⟨Sub.int (by first | rfl | omega | (refine Int.sub_eq_zero.mp ?_; simp (disch := ((try unfold I64); omega)) only [wi64_id, td]; omega)), Sub.refl _, Sub.refl _, Sub.refl _, Sub.refl _, trivial⟩))
  · have hpa := postA (tk := tk) hB1 x.e hx.e (by omega)
    obtain ⟨n, hn⟩ : ∃ n, n = postN stdB f cl x.e := ⟨_, rfl⟩
    obtain ⟨num, hnum⟩ : ∃ n, n = numP stdB f cl E x.e := ⟨_, rfl⟩
    obtain ⟨f2, hf2⟩ : ∃ n, n = nextF stdB f cl x.e := ⟨_, rfl⟩
    obtain ⟨E2, hE2⟩ : ∃ n, n = nextE stdB f cl E x.e := ⟨_, rfl⟩
    have hin : month ≤ cl → inV f2 account month = z := by
      intro hle
      rw [hz, hf2, nextF]
      split
      · rename_i h
        refine in_stay f x.e ?_ account hle
        intro hc
        have hb : onN stdB x.e ≠ 0 ∨ ofI x.e.day ≤ cl := .inr hc
        rw [postN, if_pos hb] at h
        split at h <;> first | contradiction | omega
      · rfl
    rw [← hn, ← hnum, ← hf2, ← hE2] at hpa
    have hlE := nextE_len stdB f cl E x.e
    rw [← hE2] at hlE
    by_cases h0 : n = 0
    · have hE3 : E2.length = E.length + 1 := by rw [hE2, nextE, if_pos (by rw [← hn]; exact h0)]; simp
      have hnu : num = ((E.length + 1 : Nat) : Int) := by rw [hnum, numP, if_pos (by rw [← hn]; exact h0)]
      have w1 : IntKind.wrap .i64 ((E.length : Int) + 1) = ((E.length + 1 : Nat) : Int) := by rw [wi64_id (by unfold I64; omega)]; omega
      have w2 : IntKind.wrap .u64 (IntKind.wrap .i64 ((E.length : Int) + 1)) = ((E.length + 1 : Nat) : Int) := by rw [w1, wu64_id (by unfold U64; omega)]
      clear hn hnum hf2 hE2
      subst h0; subst hnu
      repeat' first | with_reducible refine fzD_ite (fun q => ?_) (fun q => ?_) | ((try conv => whnf); first | refine bs_f (decide_eq_false hw) ?_ | refine bs_t (decide_eq_true rfl) ?_ | refine bs_t (decide_eq_true ((congrArg Int.ofNat hE3).trans w1.symm)) ?_ | refine bs_t (decide_eq_true w2.symm) ?_ | refine bs_d (fun q => ?_) (fun q => ?_) | refine bs_n ?_ | refine bs_i (fun q => ?_) (fun q => ?_) | refine ckA rfl rfl (triK hB2 rfl) ?_ | refine ckA rfl rfl (lenK hB2) ?_ | refine ckA rfl rfl (inK hB2 account month hm (hin (by assumption))) ?_ | refine ckA rfl rfl (triK hB1 rfl) ?_ | refine ckA rfl rfl (lenK hB1) ?_ | refine ckA rfl rfl (inK hB1 account month hm hz.symm) ?_ | refine ckA rfl rfl (closedK hB1) ?_ | refine ckz (hsm) ?_ | refine cq (hsm) ?_ | refine pK_i (ldO_own (k := J.length) rfl hk1 rfl) ?_ | (refine ckBk rfl rfl (by rw [List.append_nil]; exact hpa) (SubL.refl _) ?_; rintro r J2 ⟨rfl, hB2, hKp⟩; have hk2 := hKp.own hk1 (by omega) (by omega)) | refine eqk rfl ?_ | refine ffin _ rfl rfl hS (Sub.refl _) rfl ⟨?_, rfl, rfl⟩)
      all_goals first
        | (exfalso; omega)
        | (conv => whnf
           exact fnext (α := BmS) ⟨i + 1, J2, f2, E2, cl⟩ ⟨by simp only; omega, by simp only; omega, (by have := (List.getElem?_eq_some_iff.1 hk2).1; simp only; omega), hB2⟩ (by simp only; omega) (fstep_sub ⟨Sub.int (by first | rfl | omega | (refine Int.sub_eq_zero.mp ?_; simp (disch := ((try unfold I64); omega)) only [wi64_id, td]; omega)), Sub.refl _, Sub.refl _, Sub.refl _, Sub.refl _, trivial⟩))
    · have hE3 : E2 = E := by rw [hE2, nextE, if_neg (by rw [← hn]; exact h0)]
      have hf3 : f2 = f := by rw [hf2, nextF, if_neg (by rw [← hn]; exact h0)]
      have hnu : num = 0 := by rw [hnum, numP, if_neg (by rw [← hn]; exact h0)]
      clear hn hnum hf2 hE2
      subst hE3; subst hf3; subst hnu
      repeat' first | with_reducible refine fzD_ite (fun q => ?_) (fun q => ?_) | ((try conv => whnf); first | refine bs_f (decide_eq_false hw) ?_ | refine bs_f (decide_eq_false h0) ?_ | refine bs_t (decide_eq_true rfl) ?_ | refine bs_d (fun q => ?_) (fun q => ?_) | refine bs_n ?_ | refine bs_i (fun q => ?_) (fun q => ?_) | refine ckA rfl rfl (triK hB2 rfl) ?_ | refine ckA rfl rfl (lenK hB2) ?_ | refine ckA rfl rfl (inK hB2 account month hm hz.symm) ?_ | refine ckA rfl rfl (triK hB1 rfl) ?_ | refine ckA rfl rfl (lenK hB1) ?_ | refine ckA rfl rfl (inK hB1 account month hm hz.symm) ?_ | refine ckA rfl rfl (closedK hB1) ?_ | refine ckz (hsm) ?_ | refine cq (hsm) ?_ | refine pK_i (ldO_own (k := J.length) rfl hk1 rfl) ?_ | (refine ckBk rfl rfl (by rw [List.append_nil]; exact hpa) (SubL.refl _) ?_; rintro r J2 ⟨rfl, hB2, hKp⟩; have hk2 := hKp.own hk1 (by omega) (by omega)) | refine eqk rfl ?_ | refine ffin _ rfl rfl hS (Sub.refl _) rfl ⟨?_, rfl, rfl⟩)
      all_goals first
        | (exfalso; omega)
        | (conv => whnf
           exact fnext (α := BmS) ⟨i + 1, J2, f2, E2, cl⟩ ⟨by simp only; omega, by simp only; omega, (by have := (List.getElem?_eq_some_iff.1 hk2).1; simp only; omega), hB2⟩ (by simp only; omega) (fstep_sub ⟨Sub.int (by first | rfl | omega | (refine Int.sub_eq_zero.mp ?_; simp (disch := ((try unfold I64); omega)) only [wi64_id, td]; omega)), Sub.refl _, Sub.refl _, Sub.refl _, Sub.refl _, trivial⟩))
end Go.KL.YtkojphmejddhiaaDoor.J

/- the balance of books, in plain words -/
set_option linter.unusedVariables false
set_option linter.unusedSimpArgs false
set_option linter.unusedSectionVars false
set_option maxRecDepth 4000
namespace Go.KL.YtkojphmejddhiaaDoor.J
open Go Go.KL Go.RowKit Go.Proofs Go.KL.YtkojphmejddhiaaDoor

theorem sum_mapadd {α : Type} (g h : α → Int) : ∀ l : List α, (l.map fun a => g a + h a).sum = (l.map g).sum + (l.map h).sum
  | [] => rfl
  | a :: l => by simp only [List.map_cons, List.sum_cons, sum_mapadd g h l]; omega
theorem sum_map0 {α : Type} {g : α → Int} : ∀ {l : List α}, (∀ a ∈ l, g a = 0) → (l.map g).sum = 0
  | [], _ => rfl
  | a :: l, h => by rw [List.map_cons, List.sum_cons, h a (by simp), sum_map0 fun b hb => h b (by simp [hb])]; rfl
theorem sum_ite {cs : List Int} {a n : Int} (hn : cs.Nodup) (ha : a ∈ cs) : (cs.map fun c => if a = c then n else 0).sum = n := by
  induction cs with
  | nil => cases ha
  | cons b r ih =>
    simp only [List.nodup_cons] at hn
    rw [List.map_cons, List.sum_cons]
    by_cases h : a = b
    · rw [if_pos h, sum_map0]
      · omega
      · intro c hc
        rw [if_neg (fun e => hn.1 (by rw [← h, e]; exact hc))]
    · rw [if_neg h, ih hn.2 ((List.mem_cons.1 ha).resolve_left h)]; omega
/-- what lines put to an account -/
def acA : List Ln → Int → Int
  | [], _ => 0
  | x :: r, c => (if x.acc = c then x.amt else 0) + acA r c
theorem flat4_own (day : Int) (c : Int) : ∀ L : List Ln, (amtsT (flat4 day L) (c, 0, 0)).sum = acA L c
  | [] => rfl
  | x :: L => by
    have ih := flat4_own day c L
    unfold flat4 at ih ⊢
    rw [List.flatMap_cons, amtsT_app, List.sum_append, ih, acA]
    simp only [amts_sLn, amts_nil]
    rw [if_neg (show slotK day x 1 ≠ (c, 0, 0) by simp [slotK]), if_neg (show slotK day x 2 ≠ (c, 0, 0) by simp [slotK]), if_neg (show slotK day x 3 ≠ (c, 0, 0) by simp [slotK])]
    by_cases h : x.acc = c
    · rw [if_pos h, if_pos (show slotK day x 0 = (c, 0, 0) by rw [← h]; rfl)]; omega
    · rw [if_neg h, if_neg (show slotK day x 0 ≠ (c, 0, 0) by simp [slotK, h])]; omega
theorem own_post (f : Slot → Option Int) (e : Ent) (c : Int) : ownV (postF f e) c = acA e.L c + ownV f c := by
  unfold ownV
  rw [post_val]
  have := flat4_own e.day c e.L
  show (amtsT (flat4 e.day e.L) (c, 0, 0)).sum + _ = _
  rw [this]
theorem sum_acA {cs : List Int} (hn : cs.Nodup) : ∀ {L : List Ln}, (∀ x ∈ L, x.acc ∈ cs) → (cs.map (acA L)).sum = (L.map Ln.amt).sum
  | [], _ => sum_map0 fun _ _ => rfl
  | x :: L, h => by
    have e : acA (x :: L) = fun c => (if x.acc = c then x.amt else 0) + acA L c := rfl
    rw [e, sum_mapadd, sum_ite hn (h x (by simp)), sum_acA hn fun y hy => h y (by simp [hy])]; rfl
theorem acA_mem {c : Int} : ∀ {L : List Ln}, acA L c ≠ 0 → ∃ x ∈ L, x.acc = c
  | [], h => absurd rfl h
  | x :: L, h => by
    by_cases hx : x.acc = c
    · exact ⟨x, by simp, hx⟩
    · rw [acA, if_neg hx, Int.zero_add] at h
      obtain ⟨y, hy, he⟩ := acA_mem h
      exact ⟨y, by simp [hy], he⟩
theorem onL_mem {ql : AcL} : ∀ {L : List Ln}, onL ql L = 0 → ∀ x ∈ L, x.acc ∈ ql.map Ac.code
  | [], _, x, hx => by cases hx
  | y :: L, h, x, hx => by
    rw [onL] at h
    cases hl : look ql y.acc with
    | none => rw [hl] at h; cases h
    | some a =>
      rw [hl] at h
      simp only at h
      split at h
      · cases h
      · rcases List.mem_cons.1 hx with rfl | hx
        · exact look_some.1 (by rw [hl]; rfl)
        · exact onL_mem h x hx
/-- what holds of books that began with a balance of 0 -/
structure TrI (ql : AcL) (f : Slot → Option Int) : Prop where
  nz : ∀ s, -9223372036854775808 < (f s).getD 0
  dom : ∀ c, ownV f c ≠ 0 → c ∈ ql.map Ac.code
  zero : ((ql.map Ac.code).map (ownV f)).sum = 0
theorem TrI.none (ql : AcL) : TrI ql noneF := ⟨fun s => by simp [noneF], fun c h => absurd rfl h, sum_map0 fun _ _ => rfl⟩
theorem post0_inv {ql : AcL} {f : Slot → Option Int} {cl : Int} {e : Ent} (h : postN ql f cl e = 0) : onN ql e = 0 ∧ ∀ s ∈ tts (adL e), okS (adL e) f noneF s := by
  unfold postN at h
  split at h
  · rename_i hb
    by_cases h1 : onN ql e ≠ 0
    · rw [if_pos h1] at h; exact absurd h h1
    · rw [if_neg h1] at h; cases h
  · rename_i hb
    split at h
    · rename_i h3
      exact ⟨Classical.byContradiction fun hh => hb (.inl hh), h3⟩
    · cases h
theorem TrI.post {ql : AcL} {f : Slot → Option Int} {cl : Int} {e : Ent} (hok : OkQ ql) (h : TrI ql f) : TrI ql (nextF ql f cl e) := by
  unfold nextF
  split
  · rename_i h0
    obtain ⟨hon, hokS⟩ := post0_inv h0
    have hc : e.chk = 0 := Classical.byContradiction fun h => by rw [onN, if_neg h] at hon; exact h hon
    rw [onN, if_pos hc] at hon
    obtain ⟨_, _, h3⟩ := Ent.chk_0 hc
    have hm := onL_mem hon
    refine ⟨fun s => ?_, fun c hcn => ?_, ?_⟩
    · unfold postF orF gV
      by_cases hs : s ∈ tts (adL e)
      · rw [if_pos hs]
        have := hokS s hs
        unfold okS at this
        simp only [Option.some_or, Option.getD_some]
        exact this.1
      · rw [if_neg hs]; exact h.nz s
    · rw [own_post] at hcn
      by_cases h4 : acA e.L c = 0
      · exact h.dom c (by omega)
      · obtain ⟨x, hx, rfl⟩ := acA_mem h4
        exact hm x hx
    · have e1 : ownV (postF f e) = fun c => acA e.L c + ownV f c := funext fun c => own_post f e c
      rw [e1, sum_mapadd, h.zero, sum_acA hok.nd hm, h3]; rfl
  · exact h
theorem sum_ins (g : Int → Int) (a : Go.KL.YtkojphmejddhiaaDoor.Ac) : ∀ q : AcL, (((insA q a).map Ac.code).map g).sum = g a.code + ((q.map Ac.code).map g).sum
  | [] => rfl
  | x :: r => by
    rw [insA]
    split
    · simp only [List.map_cons, List.sum_cons, sum_ins g a r]; omega
    · simp only [List.map_cons, List.sum_cons]
theorem TrI.add {ql : AcL} {f : Slot → Option Int} {n : Nat} {a : Go.KL.YtkojphmejddhiaaDoor.Ac} (h : TrI ql f) : TrI (addR ql n a) f := by
  unfold addR
  split
  · rename_i h0
    obtain ⟨_, hc, _⟩ := addE_inv h0
    have hn : ownV f a.code = 0 := Classical.byContradiction fun hh => by
      have := look_some.2 (h.dom _ hh)
      rw [hc] at this; cases this
    refine ⟨h.nz, fun c hcn => ?_, ?_⟩
    · obtain ⟨x, hx, hxc⟩ := List.mem_map.1 (h.dom c hcn)
      exact List.mem_map.2 ⟨x, mem_ins.2 (.inr hx), hxc⟩
    · rw [sum_ins, h.zero, hn]; rfl
  · exact h
theorem shR_codes (ql : AcL) (c : Int) : (shR ql c).map Ac.code = ql.map Ac.code := by
  unfold shR
  rw [List.map_map]
  refine List.map_congr_left fun x _ => ?_
  simp only [Function.comp]
  split <;> rfl
theorem TrI.shut {ql : AcL} {f : Slot → Option Int} {c : Int} (h : TrI ql f) : TrI (if shutRE ql c = 0 then shR ql c else ql) f := by
  split
  · exact ⟨h.nz, by rw [shR_codes]; exact h.dom, by rw [shR_codes]; exact h.zero⟩
  · exact h
/-! ## the trial balance -/
theorem tri_mem {ql : AcL} {f : Slot → Option Int} (h : TrI ql f) (hI : ∀ s, I64 ((f s).getD 0)) {b : Ba} (hb : b ∈ triL ql f) : ∃ n, n ≠ 0 ∧ -9223372036854775808 < n ∧ n < 9223372036854775808 ∧ b.deb = max n 0 ∧ b.cre = max (-n) 0 := by
  obtain ⟨a, ha, rfl⟩ := List.mem_map.1 hb
  have h1 := (List.mem_filter.1 ha).2
  have h2 := h.nz (a.code, 0, 0)
  have h3 := hI (a.code, 0, 0)
  refine ⟨ownV f a.code, of_decide_eq_true h1, h2, h3.2, rfl, ?_⟩
  unfold I64 at h3
  show max (IntKind.wrap .i64 (0 - ownV f a.code)) 0 = _
  rw [wi64_id (by unfold I64 ownV; omega), Int.zero_sub]
theorem tri_rise {ql : AcL} {f : Slot → Option Int} (hok : OkQ ql) : ((triL ql f).map Ba.acc).Pairwise (· < ·) := by
  have e : (triL ql f).map Ba.acc = (ql.filter fun a => decide (ownV f a.code ≠ 0)).map Ac.code := by
    unfold triL; rw [List.map_map]; rfl
  rw [e]
  exact hok.rise.sublist ((List.filter_sublist).map _)
def boV (b : Ba) : List Int := [b.deb, IntKind.wrap .i64 (0 - b.cre)]
def boL (t : List Ba) : List Int := t.flatMap boV
theorem boL_len : ∀ t : List Ba, (boL t).length = 2 * t.length
  | [] => rfl
  | b :: t => by
    have := boL_len t
    unfold boL at this ⊢
    rw [List.flatMap_cons, List.length_append, this]; simp [boV]; omega
theorem boL_snoc {t : List Ba} {i : Nat} (hi : i < t.length) : boL (t.take (i + 1)) = boL (t.take i) ++ boV t[i]! := by
  rw [Go.KL.YtkojphmejddhiaaDoor.take_snA hi]; simp [boL]
theorem boL_I {ql : AcL} {f : Slot → Option Int} (h : TrI ql f) (hI : ∀ s, I64 ((f s).getD 0)) : ∀ n ∈ boL (triL ql f), I64 n := by
  intro n hn
  obtain ⟨b, hb, hn⟩ := List.mem_flatMap.1 hn
  obtain ⟨m, _, h1, h2, h3, h4⟩ := tri_mem h hI hb
  simp only [boV, List.mem_cons, List.not_mem_nil, or_false] at hn
  rcases hn with rfl | rfl
  · unfold I64; omega
  · exact wi64_range _
theorem boL_sum {ql : AcL} {f : Slot → Option Int} (h : TrI ql f) (hI : ∀ s, I64 ((f s).getD 0)) : (boL (triL ql f)).sum = 0 := by
  have : ∀ q : AcL, (boL (triL q f)).sum = ((q.map Ac.code).map (ownV f)).sum := fun q => by
    induction q with
    | nil => rfl
    | cons a r ih =>
      have h2 := h.nz (a.code, 0, 0)
      have h3 := hI (a.code, 0, 0)
      unfold I64 at h3
      unfold triL boL at ih ⊢
      rw [List.filter_cons]
      by_cases h0 : ownV f a.code = 0
      · rw [if_neg (by simp [h0]), ih, List.map_cons, List.map_cons, List.sum_cons, h0]; omega
      · rw [if_pos (by simp [h0]), List.map_cons, List.flatMap_cons, List.sum_append, ih, List.map_cons, List.map_cons, List.sum_cons]
        have e : (boV (baV f a)).sum = ownV f a.code := by
          unfold boV baV
          simp only [List.sum_cons, List.sum_nil]
          change -9223372036854775808 < ownV f a.code at h2
          change -9223372036854775808 ≤ ownV f a.code ∧ ownV f a.code < 9223372036854775808 at h3
          rw [wi64_id (n := 0 - ownV f a.code) (by unfold I64; omega), wi64_id (by unfold I64; omega)]
          omega
        rw [e]
  rw [this, h.zero]
/-! ## the accounts under none -/
theorem sum_swap {α β : Type} (g : α → β → Int) : ∀ (a : List α) (b : List β), (a.map fun x => (b.map (g x)).sum).sum = (b.map fun y => (a.map fun x => g x y).sum).sum
  | [], b => (sum_map0 (fun y _ => rfl)).symm
  | x :: a, b => by
    rw [List.map_cons, List.sum_cons, sum_swap g a b, ← sum_mapadd]; rfl
theorem und_sum (q : AcL) (f : Slot → Option Int) (r : Int) : ∀ l : AcL, ((undL q r l).map (ownV f)).sum = (l.map fun k => if isB (look q) k.code r = true then ownV f k.code else 0).sum
  | [] => rfl
  | k :: l => by
    have ih := und_sum q f r l
    unfold undL at ih ⊢
    rw [List.filter_cons, List.map_cons (f := fun k : Go.KL.YtkojphmejddhiaaDoor.Ac => _), List.sum_cons]
    by_cases h : isB (look q) k.code r = true
    · rw [if_pos h, if_pos h, List.map_cons, List.map_cons, List.sum_cons, ih]
    · rw [if_neg h, if_neg h, ih]; omega
theorem sum_one {α : Type} {p : α → Prop} [DecidablePred p] {n : Int} : ∀ {l : List α}, l.Nodup → (∃ r ∈ l, p r ∧ ∀ x ∈ l, p x → x = r) → (l.map fun x => if p x then n else 0).sum = n
  | [], _, h => by obtain ⟨r, hr, _⟩ := h; cases hr
  | x :: l, hn, h => by
    simp only [List.nodup_cons] at hn
    obtain ⟨r, hr, hp, hu⟩ := h
    rw [List.map_cons, List.sum_cons]
    by_cases hx : p x
    · have := hu x (by simp) hx
      subst this
      rw [if_pos hx, sum_map0]
      · omega
      · intro y hy
        rw [if_neg fun hpy => hn.1 (by rw [← hu y (by simp [hy]) hpy]; exact hy)]
    · rw [if_neg hx, sum_one hn.2 ⟨r, (List.mem_cons.1 hr).resolve_left (fun e => hx (e ▸ hp)), hp, fun y hy => hu y (by simp [hy])⟩]; omega
/-- an account stands under one that is under none, and under no other one of these -/
theorem root_one {q : AcL} (hok : OkQ q) {k : Go.KL.YtkojphmejddhiaaDoor.Ac} (hk : k ∈ q) : ∃ r ∈ q, (r.up = 0 ∧ isB (look q) k.code r.code = true) ∧ ∀ x ∈ q, (x.up = 0 ∧ isB (look q) k.code x.code = true) → x = r := by
  have hkc : look q k.code = some k := look_of hok.rise hk
  have hks : (look q k.code).isSome = true := by rw [hkc]; rfl
  have hpos := dep_pos hok.low hks
  have hd0 : dep (look q) 0 = 0 := dep_none hok.zero
  -- the top
  have hcl := dep_climb hok.low (dep (look q) k.code - 1) k.code (by omega)
  obtain ⟨c, hc⟩ : ∃ c, c = climb (look q) (dep (look q) k.code - 1) k.code := ⟨_, rfl⟩
  rw [← hc] at hcl
  have hdc : dep (look q) c = 1 := by omega
  have hcs : (look q c).isSome = true := by
    cases h : look q c with
    | none => rw [dep_none h] at hdc; cases hdc
    | some _ => rfl
  obtain ⟨r, hr⟩ := Option.isSome_iff_exists.1 hcs
  obtain ⟨hrm, hrc⟩ := look_mem hr
  have hru : r.up = 0 := by
    rcases hok.clF hr with h | h
    · exact h
    · have h1 := dep_up hok.low hcs
      have h2 := dep_pos hok.low h
      rw [show upF (look q) c = r.up by rw [upF, hr]; rfl] at h1
      omega
  refine ⟨r, hrm, ⟨hru, isB_iff.2 ⟨dep (look q) k.code - 1, by omega, by rw [hrc]; exact hc.symm⟩⟩, fun x hx ⟨hxu, hxb⟩ => ?_⟩
  obtain ⟨i, hi, hic⟩ := isB_iff.1 hxb
  have hxl : look q x.code = some x := look_of hok.rise hx
  have hxs : (look q x.code).isSome = true := by rw [hxl]; rfl
  have h1 := dep_up hok.low hxs
  rw [show upF (look q) x.code = x.up by rw [upF, hxl]; rfl, hxu, hd0] at h1
  have h2 := dep_climb hok.low i k.code (by omega)
  rw [hic, h1] at h2
  have h3 : i = dep (look q) k.code - 1 := by omega
  have h4 : x.code = r.code := by rw [hrc, hc, ← h3, hic]
  have h5 := hxl
  rw [h4, hrc, hr] at h5
  exact (Option.some.inj h5).symm
/-- what the accounts that are under none tell -/
def topL (q : AcL) (f : Slot → Option Int) (l : AcL) : List Int := (l.filter fun a => decide (a.up = 0)).map fun a => (undV q f a.code).sum
theorem topL_snoc (q : AcL) (f : Slot → Option Int) {l : AcL} {i : Nat} (hi : i < l.length) : topL q f (l.take (i + 1)) = topL q f (l.take i) ++ if (l[i]!).up = 0 then [(undV q f (l[i]!).code).sum] else [] := by
  rw [Go.KL.YtkojphmejddhiaaDoor.take_snA hi, topL, List.filter_append, List.map_append, topL]
  generalize l[i]! = a
  congr 1
  by_cases h : a.up = 0 <;> simp [h]
theorem top_sum {q : AcL} {f : Slot → Option Int} (hok : OkQ q) (h : TrI q f) : (topL q f q).sum = 0 := by
  have e1 : ∀ l : AcL, (topL q f l).sum = (l.map fun r => (q.map fun k => if r.up = 0 ∧ isB (look q) k.code r.code = true then ownV f k.code else 0).sum).sum := fun l => by
    induction l with
    | nil => rfl
    | cons r l ih =>
      unfold topL at ih ⊢
      rw [List.filter_cons, List.map_cons (f := fun r : Go.KL.YtkojphmejddhiaaDoor.Ac => _), List.sum_cons]
      by_cases h0 : r.up = 0
      · rw [if_pos (by simp [h0]), List.map_cons, List.sum_cons, ih]
        congr 1
        unfold undV
        rw [und_sum]
        congr 1
        refine List.map_congr_left fun k _ => ?_
        by_cases hb : isB (look q) k.code r.code = true
        · rw [if_pos hb, if_pos ⟨h0, hb⟩]
        · rw [if_neg hb, if_neg (fun h => hb h.2)]
      · rw [if_neg (by simp [h0]), ih, sum_map0 (l := q) (g := fun k => if r.up = 0 ∧ isB (look q) k.code r.code = true then ownV f k.code else 0) fun k _ => if_neg fun h => h0 h.1]; omega
  have hnd : q.Nodup := by
    have := List.pairwise_map.1 hok.rise
    exact this.imp fun h e => by rw [e] at h; omega
  rw [e1, sum_swap]
  have e2 : (q.map fun k => (q.map fun r : Go.KL.YtkojphmejddhiaaDoor.Ac => if r.up = 0 ∧ isB (look q) k.code r.code = true then ownV f k.code else 0).sum) = q.map fun k => ownV f k.code := by
    refine List.map_congr_left fun k hk => ?_
    exact sum_one hnd (root_one hok hk)
  rw [e2]
  have h0 := h.zero
  rw [List.map_map] at h0
  exact h0
end Go.KL.YtkojphmejddhiaaDoor.J

/- BooksTrial -/
set_option linter.unusedVariables false
set_option linter.unusedSimpArgs false
set_option linter.unusedSectionVars false
set_option maxRecDepth 4000
namespace Go.KL.YtkojphmejddhiaaDoor.J
open Go Go.KL Go.RowKit Go.Proofs Go.KL.YtkojphmejddhiaaDoor

theorem c4 : cFun E0.P 4 = some ⟨195, [(2, none)], .seq (.rg [⟨some 2, none, .mv (.k (.bool false))⟩]) (.seq (.seq (.rg [⟨some 16, none, .mv (.t 0)⟩, ⟨some 17, none, .call 8 [.t 16]⟩]) (.cond (.t 17) (.seq (.rg [⟨some 18, none, .call 9 []⟩, ⟨some 2, none, .mv (.t 18)⟩]) .ret) .skip)) (.seq (.rg [⟨some 19, none, .call 10 []⟩, ⟨some 3, none, .mv (.t 19)⟩]) (.seq (.rg [⟨some 20, none, .mv (.t 3)⟩, ⟨some 21, none, .call 11 [.t 20]⟩, ⟨some 4, none, .mv (.t 21)⟩]) (.seq (.seq (.rg [⟨some 5, none, .mv (.k (.int .i64 0))⟩]) (.block 0 (.loop (.seq (.seq (.rg [⟨some 22, none, .mv (.t 5)⟩, ⟨some 23, none, .mv (.t 0)⟩, ⟨some 24, none, .len 1 (.t 23)⟩, ⟨some 25, none, .bin .lss .leaf (.t 22) (.t 24)⟩]) (.cond (.t 25) .skip (.exit 0))) (.seq (.block 1 (.seq (.rg [⟨some 28, none, .mv (.t 0)⟩, ⟨some 29, none, .mv (.t 5)⟩, ⟨some 30, none, .ia 11 (.t 28) (.t 29)⟩, ⟨some 31, none, .fa 0 (.t 30)⟩, ⟨some 32, none, .ld 1 false (.t 31)⟩, ⟨some 33, none, .bin .rem .leaf (.t 32) (.k (.int .u8 4))⟩]) (.block 2 (.seq (.rg [⟨some 35, none, .bin .eql .leaf (.t 33) (.k (.int .u8 0))⟩, ⟨some 34, none, .mv (.t 35)⟩]) (.cond (.t 34) (.rg [⟨some 36, none, .mv (.t 4)⟩, ⟨some 37, none, .mv (.t 0)⟩, ⟨some 38, none, .mv (.t 5)⟩, ⟨some 39, none, .ia 11 (.t 37) (.t 38)⟩, ⟨some 40, none, .fa 1 (.t 39)⟩, ⟨some 41, none, .ld 4 true (.t 40)⟩, ⟨some 42, none, .call 18 [.t 36, .t 41]⟩]) (.seq (.rg [⟨some 44, none, .bin .eql .leaf (.t 33) (.k (.int .u8 1))⟩, ⟨some 43, none, .mv (.t 44)⟩]) (.cond (.t 43) (.rg [⟨some 45, none, .mv (.t 4)⟩, ⟨some 46, none, .mv (.t 0)⟩, ⟨some 47, none, .mv (.t 5)⟩, ⟨some 48, none, .ia 11 (.t 46) (.t 47)⟩, ⟨some 49, none, .fa 5 (.t 48)⟩, ⟨some 50, none, .ld 1 false (.t 49)⟩, ⟨some 51, none, .call 16 [.t 45, .t 50]⟩]) (.seq (.rg [⟨some 53, none, .bin .eql .leaf (.t 33) (.k (.int .u8 2))⟩, ⟨some 52, none, .mv (.t 53)⟩]) (.cond (.t 52) (.rg [⟨some 54, none, .mv (.t 3)⟩, ⟨some 55, none, .mv (.t 0)⟩, ⟨some 56, none, .mv (.t 5)⟩, ⟨some 57, none, .ia 11 (.t 55) (.t 56)⟩, ⟨some 58, none, .fa 6 (.t 57)⟩, ⟨some 59, none, .ld 5 true (.t 58)⟩, ⟨some 60, none, .call 19 [.t 54, .t 59]⟩]) (.seq (.rg [⟨some 62, none, .bin .eql .leaf (.t 33) (.k (.int .u8 3))⟩, ⟨some 61, none, .mv (.t 62)⟩]) (.cond (.t 61) (.rg [⟨some 63, none, .mv (.t 3)⟩, ⟨some 64, none, .mv (.t 0)⟩, ⟨some 65, none, .mv (.t 5)⟩, ⟨some 66, none, .ia 11 (.t 64) (.t 65)⟩, ⟨some 67, none, .fa 6 (.t 66)⟩, ⟨some 68, none, .fa 0 (.t 67)⟩, ⟨some 69, none, .ld 1 false (.t 68)⟩, ⟨some 70, none, .call 20 [.t 63, .t 69]⟩]) .skip))))))))))) (.rg [⟨some 26, none, .mv (.t 5)⟩, ⟨some 27, none, .bin .add .leaf (.t 26) (.k (.int .i64 1))⟩, ⟨some 5, none, .mv (.t 27)⟩])))))) (.seq (.rg [⟨some 71, none, .mv (.t 4)⟩, ⟨some 72, none, .call 12 [.t 71]⟩, ⟨some 6, none, .mv (.t 72)⟩]) (.seq (.rg [⟨some 7, none, .mv (.k .nilsl)⟩]) (.seq (.seq (.rg [⟨some 8, none, .mv (.k (.int .i64 0))⟩]) (.block 3 (.loop (.seq (.seq (.rg [⟨some 73, none, .mv (.t 8)⟩, ⟨some 74, none, .mv (.t 6)⟩, ⟨some 75, none, .len 1 (.t 74)⟩, ⟨some 76, none, .bin .lss .leaf (.t 73) (.t 75)⟩]) (.cond (.t 76) .skip (.exit 3))) (.seq (.block 4 (.seq (.seq (.rd [(⟨some 79, none, .mv (.t 6)⟩, none), (⟨some 80, none, .mv (.t 8)⟩, none), (⟨some 81, none, .ia 3 (.t 79) (.t 80)⟩, none), (⟨some 82, none, .fa 1 (.t 81)⟩, none), (⟨some 83, none, .ld 1 false (.t 82)⟩, none), (⟨some 84, none, .bin .lss .leaf (.t 83) (.k (.int .i64 0))⟩, none), (⟨some 85, none, .mv (.t 84)⟩, none), (⟨some 86, some (85, false), .mv (.t 6)⟩, none), (⟨some 87, some (85, false), .mv (.t 8)⟩, none), (⟨some 88, some (85, false), .ia 3 (.t 86) (.t 87)⟩, none), (⟨some 89, some (85, false), .fa 2 (.t 88)⟩, none), (⟨some 90, some (85, false), .ld 1 false (.t 89)⟩, none), (⟨some 91, some (85, false), .bin .lss .leaf (.t 90) (.k (.int .i64 0))⟩, none), (⟨some 92, none, .pick (.t 85) (.k (.bool true)) (.t 91)⟩, none), (⟨some 93, none, .mv (.t 92)⟩, none), (⟨some 94, some (93, false), .mv (.t 6)⟩, none), (⟨some 95, some (93, false), .mv (.t 8)⟩, none), (⟨some 96, some (93, false), .ia 3 (.t 94) (.t 95)⟩, none), (⟨some 97, some (93, false), .fa 1 (.t 96)⟩, none), (⟨some 98, some (93, false), .ld 1 false (.t 97)⟩, none), (⟨some 99, some (93, false), .bin .eql .leaf (.t 98) (.k (.int .i64 0))⟩, none), (⟨some 100, some (93, false), .mv (.t 6)⟩, none), (⟨some 101, some (93, false), .mv (.t 8)⟩, none), (⟨some 102, some (93, false), .ia 3 (.t 100) (.t 101)⟩, none), (⟨some 103, some (93, false), .fa 2 (.t 102)⟩, none), (⟨some 104, some (93, false), .ld 1 false (.t 103)⟩, none), (⟨some 105, some (93, false), .bin .eql .leaf (.t 104) (.k (.int .i64 0))⟩, none), (⟨some 106, some (93, false), .bin .eql .leafB (.t 99) (.t 105)⟩, none), (⟨some 107, none, .pick (.t 93) (.k (.bool true)) (.t 106)⟩, none), (⟨some 108, none, .mv (.t 107)⟩, none), (⟨some 109, some (108, false), .mv (.t 8)⟩, none), (⟨some 110, some (108, false), .bin .gtr .leaf (.t 109) (.k (.int .i64 0))⟩, none), (⟨some 111, some (108, false), .mv (.t 110)⟩, none), (⟨some 112, some (111, true), .mv (.t 6)⟩, none), (⟨some 113, some (111, true), .mv (.t 8)⟩, none), (⟨some 114, some (111, true), .bin .sub .leaf (.t 113) (.k (.int .i64 1))⟩, none), (⟨some 115, some (111, true), .ia 3 (.t 112) (.t 114)⟩, none), (⟨some 116, some (111, true), .fa 0 (.t 115)⟩, none), (⟨some 117, some (111, true), .ld 1 false (.t 116)⟩, none), (⟨some 118, some (111, true), .mv (.t 6)⟩, none), (⟨some 119, some (111, true), .mv (.t 8)⟩, none), (⟨some 120, some (111, true), .ia 3 (.t 118) (.t 119)⟩, none), (⟨some 121, some (111, true), .fa 0 (.t 120)⟩, none), (⟨some 122, some (111, true), .ld 1 false (.t 121)⟩, none), (⟨some 123, some (111, true), .bin .geq .leaf (.t 117) (.t 122)⟩, none), (⟨some 124, some (108, false), .pick (.t 111) (.t 123) (.k (.bool false))⟩, none), (⟨some 125, none, .pick (.t 108) (.k (.bool true)) (.t 124)⟩, none)]) (.cond (.t 125) (.seq (.rg [⟨some 2, none, .mv (.k (.bool false))⟩]) .ret) .skip)) (.rd [(⟨some 126, none, .mv (.t 7)⟩, none), (⟨some 127, none, .mv (.t 6)⟩, none), (⟨some 128, none, .mv (.t 8)⟩, none), (⟨some 129, none, .ia 3 (.t 127) (.t 128)⟩, none), (⟨some 130, none, .fa 1 (.t 129)⟩, none), (⟨some 131, none, .ld 1 false (.t 130)⟩, none), (⟨some 132, none, .mv (.t 6)⟩, none), (⟨some 133, none, .mv (.t 8)⟩, none), (⟨some 134, none, .ia 3 (.t 132) (.t 133)⟩, none), (⟨some 135, none, .fa 2 (.t 134)⟩, none), (⟨some 136, none, .ld 1 false (.t 135)⟩, none), (⟨some 137, none, .un .neg (.t 136)⟩, none), (⟨some 138, none, .buildS 2 1 [.int .i64 0] [(0, .t 131), (1, .t 137)] 2⟩, none), (⟨some 139, none, .app 48 2 1 8 [.int .i64 0] (.t 126) (.t 138)⟩, some []), (⟨some 7, none, .mv (.t 139)⟩, none)]))) (.rg [⟨some 77, none, .mv (.t 8)⟩, ⟨some 78, none, .bin .add .leaf (.t 77) (.k (.int .i64 1))⟩, ⟨some 8, none, .mv (.t 78)⟩])))))) (.seq (.rg [⟨some 141, none, .mv (.t 7)⟩, ⟨some 142, none, .call 21 [.t 141]⟩, ⟨some 140, none, .mv (.t 142)⟩, ⟨some 143, none, .ext 0 (.t 140)⟩, ⟨some 144, none, .ext 1 (.t 140)⟩, ⟨some 9, none, .mv (.t 143)⟩, ⟨some 10, none, .mv (.t 144)⟩]) (.seq (.seq (.rg [⟨some 145, none, .mv (.t 9)⟩, ⟨some 146, none, .bin .neq .leaf (.t 145) (.k (.int .i64 0))⟩, ⟨some 147, none, .mv (.t 146)⟩, ⟨some 148, some (147, false), .mv (.t 10)⟩, ⟨some 149, some (147, false), .un .not (.t 148)⟩, ⟨some 150, none, .pick (.t 147) (.k (.bool true)) (.t 149)⟩]) (.cond (.t 150) (.seq (.rg [⟨some 2, none, .mv (.k (.bool false))⟩]) .ret) .skip)) (.seq (.rg [⟨some 151, none, .mv (.t 3)⟩, ⟨some 152, none, .call 22 [.t 151]⟩, ⟨some 11, none, .mv (.t 152)⟩]) (.seq (.rg [⟨some 12, none, .mv (.k .nilsl)⟩]) (.seq (.seq (.rg [⟨some 13, none, .mv (.k (.int .i64 0))⟩]) (.block 5 (.loop (.seq (.seq (.rg [⟨some 153, none, .mv (.t 13)⟩, ⟨some 154, none, .mv (.t 11)⟩, ⟨some 155, none, .len 1 (.t 154)⟩, ⟨some 156, none, .bin .lss .leaf (.t 153) (.t 155)⟩]) (.cond (.t 156) .skip (.exit 5))) (.seq (.block 6 (.seq (.seq (.rg [⟨some 159, none, .mv (.t 11)⟩, ⟨some 160, none, .mv (.t 13)⟩, ⟨some 161, none, .ia 5 (.t 159) (.t 160)⟩, ⟨some 162, none, .fa 1 (.t 161)⟩, ⟨some 163, none, .ld 1 false (.t 162)⟩, ⟨some 164, none, .bin .neq .leaf (.t 163) (.k (.int .i64 0))⟩]) (.cond (.t 164) (.exit 6) .skip)) (.seq (.rg [⟨some 166, none, .mv (.t 4)⟩, ⟨some 167, none, .mv (.t 11)⟩, ⟨some 168, none, .mv (.t 13)⟩, ⟨some 169, none, .ia 5 (.t 167) (.t 168)⟩, ⟨some 170, none, .fa 0 (.t 169)⟩, ⟨some 171, none, .ld 1 false (.t 170)⟩, ⟨some 172, none, .call 23 [.t 166, .t 171]⟩, ⟨some 165, none, .mv (.t 172)⟩, ⟨some 173, none, .ext 0 (.t 165)⟩, ⟨some 174, none, .ext 1 (.t 165)⟩, ⟨some 14, none, .mv (.t 173)⟩, ⟨some 15, none, .mv (.t 174)⟩]) (.seq (.seq (.rg [⟨some 175, none, .mv (.t 15)⟩, ⟨some 176, none, .bin .eql .leaf (.t 175) (.k (.int .i64 211))⟩]) (.cond (.t 176) (.seq (.rg [⟨some 177, none, .call 9 []⟩, ⟨some 2, none, .mv (.t 177)⟩]) .ret) .skip)) (.rg [⟨some 178, none, .mv (.t 12)⟩, ⟨some 179, none, .mv (.t 14)⟩, ⟨some 180, none, .buildS 1 1 [.int .i64 0] [(0, .t 179)] 2⟩, ⟨some 181, none, .app 48 2 1 8 [.int .i64 0] (.t 178) (.t 180)⟩, ⟨some 12, none, .mv (.t 181)⟩]))))) (.rg [⟨some 157, none, .mv (.t 13)⟩, ⟨some 158, none, .bin .add .leaf (.t 157) (.k (.int .i64 1))⟩, ⟨some 13, none, .mv (.t 158)⟩])))))) (.seq (.rg [⟨some 183, none, .mv (.t 12)⟩, ⟨some 184, none, .call 21 [.t 183]⟩, ⟨some 182, none, .mv (.t 184)⟩, ⟨some 185, none, .ext 0 (.t 182)⟩, ⟨some 186, none, .ext 1 (.t 182)⟩, ⟨some 9, none, .mv (.t 185)⟩, ⟨some 10, none, .mv (.t 186)⟩]) (.seq (.rg [⟨some 187, none, .mv (.t 9)⟩, ⟨some 188, none, .bin .eql .leaf (.t 187) (.k (.int .i64 0))⟩, ⟨some 189, none, .mv (.t 188)⟩, ⟨some 190, some (189, true), .mv (.t 10)⟩, ⟨some 191, none, .pick (.t 189) (.t 190) (.k (.bool false))⟩, ⟨some 192, none, .mv (.t 191)⟩, ⟨some 193, some (192, true), .call 9 []⟩, ⟨some 194, none, .pick (.t 192) (.t 193) (.k (.bool false))⟩, ⟨some 2, none, .mv (.t 194)⟩]) .ret))))))))))))))⟩ := by kernel_rfl

section
variable {X : List O} {tk : Tks} {lo bid cid kid mid : Nat} {ql ql' : AcL} {f : Slot → Option Int} {E : List Ent} {closed : Int}
/-- the books' chart is another one -/
theorem bk_kid (h : BkR X lo bid cid kid mid ql f E closed) {o' : O} (hch : Ch (look ql') o') (hok : OkQ ql') (hl : ql'.length < 1000000) : BkR (X.set kid o') lo bid cid kid mid ql' f E closed ∧ kid < X.length := by
  obtain ⟨vid, ety, hb, hv⟩ := h.b
  obtain ⟨oc, hk, hch0⟩ := h.k
  obtain ⟨om, hm, hf⟩ := h.m
  have hkl := (List.getElem?_eq_some_iff.1 hk).1
  have n1 : kid ≠ bid := fun hh => by rw [hh, hb] at hk; exact (ch_ne hch0).1 _ (Option.some.inj hk).symm
  have n2 : kid ≠ cid := fun hh => by rw [hh, h.c] at hk; exact (ch_ne hch0).1 _ (Option.some.inj hk).symm
  have n3 : kid ≠ mid := fun hh => by rw [hh, hm] at hk; exact (ch_ne hch0).2.2 f (Option.some.inj hk ▸ hf)
  refine ⟨⟨⟨vid, ety, by rw [List.getElem?_set_ne n1]; exact hb, fun hE => ?_⟩, by rw [List.getElem?_set_ne n2]; exact h.c, ⟨o', List.getElem?_set_self hkl, hch⟩, ⟨om, by rw [List.getElem?_set_ne n3]; exact hm, hf⟩, hok, hl, h.lo, h.I⟩, hkl⟩
  obtain ⟨v1, v2, v3⟩ := hv hE
  have n4 : kid ≠ vid := fun hh => by rw [hh, v1] at hk; exact (ch_ne hch0).2.1 _ _ _ (Option.some.inj hk).symm
  exact ⟨by rw [List.getElem?_set_ne n4]; exact v1, v2, v3⟩
theorem addK (h : BkR X lo bid cid kid mid ql f E closed) (a : Go.KL.YtkojphmejddhiaaDoor.Ac) (hl : ql.length + 1 < 1000000) : ACalls E0 19 [.po cid 0, acD a] X tk (fun r X' tk' => (∃ n, r = .int .i64 n ∧ BkR X' lo bid cid kid mid (addR ql (dep (look ql) a.up) a) f E closed ∧ X'.length = X.length) ∧ ((∀ id, id < lo → X'[id]? = X[id]?) ∧ lo ≤ X'.length) ∧ tk' = tk) := by
  obtain ⟨oc, hk, hch⟩ := h.k
  have he := h.ok.low.ends a.up
  obtain ⟨⟨okA, lenA⟩, chA⟩ := add_next (a := a) h.ok he
  have hd := add_hd (a := a) h.ok he
  have hn : dep (look ql) a.up < 1000000 := by have := depF_le (look ql) 8 a.up; unfold dep; omega
  refine (add_c hch h.c hk a _ hn hd).mono ?_
  rintro r S' tk' ⟨o', ⟨rfl, ch2⟩, rfl, rfl⟩
  obtain ⟨h1, h2⟩ := bk_kid h (chA _ ch2) okA (by omega)
  have := h.lo
  exact ⟨⟨_, rfl, h1, by simp⟩, ⟨fun id hi => List.getElem?_set_ne (by omega), by rw [List.length_set]; omega⟩, rfl⟩
theorem shutK (h : BkR X lo bid cid kid mid ql f E closed) (c : Int) : ACalls E0 20 [.po cid 0, .int .i64 c] X tk (fun r X' tk' => (∃ n, r = .int .i64 n ∧ BkR X' lo bid cid kid mid (if shutRE ql c = 0 then shR ql c else ql) f E closed ∧ X'.length = X.length) ∧ ((∀ id, id < lo → X'[id]? = X[id]?) ∧ lo ≤ X'.length) ∧ tk' = tk) := by
  obtain ⟨oc, hk, hch⟩ := h.k
  obtain ⟨⟨okS, lenS⟩, chS⟩ := shut_next (c := c) h.ok
  have hlq := h.lq
  refine (shut_c hch h.c hk h.ok.keys (by rw [List.length_map]; exact h.lq) c (h.ok.und h.lq c)).mono ?_
  rintro r S' tk' ⟨o', ⟨rfl, ch2⟩, rfl, rfl⟩
  obtain ⟨h1, h2⟩ := bk_kid h (chS _ ch2) okS (by omega)
  have := h.lo
  exact ⟨⟨_, rfl, h1, by simp⟩, ⟨fun id hi => List.getElem?_set_ne (by omega), by rw [List.length_set]; omega⟩, rfl⟩
end
structure BtS where
  i : Nat
  J : List O
  ql : AcL
  f : Slot → Option Int
  E : List Ent
  cl : Int
structure BtS.P (s : BtS) (S : List O) (n : Nat) : Prop where
  i : s.i ≤ n
  E : s.E.length ≤ s.i
  q : s.ql.length ≤ stdB.length + s.i
  B : BkR (S ++ s.J) S.length (S.length + 3) (S.length + 1) S.length (S.length + 2) s.ql s.f s.E s.cl
  T : TrI s.ql s.f
theorem stdB_len : stdB.length < 1000 := by have := std_ok0.2; unfold stdB; omega
theorem mod4 {w : Int} (h : 0 ≤ w ∧ w < 256) : w.tmod 4 = 0 ∨ w.tmod 4 = 1 ∨ w.tmod 4 = 2 ∨ w.tmod 4 = 3 := by
  rw [Int.tmod_eq_emod_of_nonneg h.1]; omega
set_option maxHeartbeats 8000000 in
theorem booksTrial (l : List At) (hR : ∀ x ∈ l, x.R) (hlm : l.length ≤ maxLen) : Pure 4 [.sl (ats l)] (.bool true) := by
  intro S tk
  have hla := ats_len l
  have hgr := great l hlm
  have hsl := stdB_len
  cases hg : greatB l with
  | true =>
    rw [hg] at hgr
    refine ACalls.fgo c4 rfl fun hS => ?_
    repeat' first | with_reducible refine fzD_ite (fun q => ?_) (fun q => ?_) | ((try conv => whnf); first | refine bs_d (fun q => ?_) (fun q => ?_) | refine bs_n ?_ | refine bs_i (fun q => ?_) (fun q => ?_) | refine ckz (hgr) ?_ | refine cq (hgr) ?_ | refine ckz (head_b) ?_ | refine cq (head_b) ?_ | refine eqk rfl ?_ | refine ffin _ rfl rfl hS (Sub.refl _) rfl ⟨?_, rfl, rfl⟩)
    all_goals rfl
  | false =>
  rw [hg] at hgr
  have h16 : l.length ≤ 16 := by
    unfold greatB at hg
    simp only [Bool.or_eq_false_iff, decide_eq_false_iff_not] at hg
    omega
  refine ACalls.fgo c4 rfl fun hS => ?_
  repeat' first | with_reducible refine fzD_ite (fun q => ?_) (fun q => ?_) | ((try conv => whnf); first | refine bs_d (fun q => ?_) (fun q => ?_) | refine bs_n ?_ | refine bs_i (fun q => ?_) (fun q => ?_) | refine ckz (hgr) ?_ | refine cq (hgr) ?_ | (refine ckNE (G := fun r o => r = .po (S.length + 1) 0 ∧ Ch (look stdB) o) (Jn := fun o => [o, .arr [.map S.length]]) (ds' := []) rfl rfl (std_atB (by simp)) .nil ?_; rintro r o ⟨rfl, hch⟩) | (refine ckN (d := .po (S.length + 2 + 1) 0) (Jn := [.map kSl (MG.entKv sD []) 0, .arr [.po (S.length + 1) 0, .nilsl, .map (S.length + 2), .int .i64 0]]) rfl rfl (new_at (by simp)) ?_; have hB0 := bk_new (S := S) hch stdB_ok.1 stdB_ok.2) | refine eqk rfl ?_ | refine ffin _ rfl rfl hS (Sub.refl _) rfl ⟨?_, rfl, rfl⟩)
  conv => whnf
  refine floop (α := BtS) rfl rfl hS (fun s => s.P S l.length) (fun s => l.length - s.i) (fun s => [(5, .d (.int .i64 s.i)), (4, .d (.po (S.length + 3) 0)), (3, .d (.po (S.length + 1) 0)), (0, .d (.sl (ats l)))]) (fun s => s.J) (fun _ => []) ⟨0, _, stdB, noneF, [], 0⟩ ⟨Nat.zero_le _, Nat.le_refl _, Nat.le_refl _, hB0, TrI.none _⟩ (fstep_sub ⟨Sub.refl _, Sub.refl _, Sub.refl _, Sub.refl _, trivial⟩) ?_
  rintro ⟨i, J, ql, f, E, cl⟩ hP
  have hi : i ≤ l.length := hP.i
  have hE : E.length ≤ i := hP.E
  have hq : ql.length ≤ stdB.length + i := hP.q
  have hB : BkR (S ++ J) S.length (S.length + 3) (S.length + 1) S.length (S.length + 2) ql f E cl := hP.B
  have hT : TrI ql f := hP.T
  clear hP
  simp only
  by_cases hlt : i < l.length
  · have hx := hR _ (mem_at hlt)
    have hix := iaD_at (l := l) (i := i) (n := (i : Int)) rfl hlt
    generalize l[i]! = x at hx hix
    have hok := hB.ok
    rcases mod4 hx.what with hw | hw | hw | hw
    · have hlE := nextE_len ql f cl E x.e
      repeat' first | with_reducible refine fzD_ite (fun q => ?_) (fun q => ?_) | ((try conv => whnf); first | refine bs_t (decide_eq_true (show (i : Int) < (ats l).length by omega)) ?_ | refine bs_t (decide_eq_true hw) ?_ | refine bs_d (fun q => ?_) (fun q => ?_) | refine bs_n ?_ | refine bs_i (fun q => ?_) (fun q => ?_) | refine pK_i hix ?_ | (refine ckBk rfl rfl (postA hB x.e hx.e (by omega)) (SubL.refl _) ?_; rintro r J2 ⟨rfl, hB2, -⟩) | refine eqk rfl ?_ | refine ffin _ rfl rfl hS (Sub.refl _) rfl ⟨?_, rfl, rfl⟩)
      conv => whnf
      exact fnext (α := BtS) ⟨i + 1, J2, ql, nextF ql f cl x.e, nextE ql f cl E x.e, cl⟩ ⟨by simp only; omega, by simp only; omega, by simp only; omega, hB2, hT.post hok⟩ (by simp only; omega) (fstep_sub ⟨Sub.int (by first | rfl | omega | (refine Int.sub_eq_zero.mp ?_; simp (disch := ((try unfold I64); omega)) only [wi64_id, td]; omega)), Sub.refl _, Sub.refl _, Sub.refl _, trivial⟩)
    · skip
      repeat' first | with_reducible refine fzD_ite (fun q => ?_) (fun q => ?_) | ((try conv => whnf); first | refine bs_t (decide_eq_true (show (i : Int) < (ats l).length by omega)) ?_ | refine bs_t (decide_eq_true hw) ?_ | refine bs_f (decide_eq_false (show ¬ x.what.tmod 4 = 0 by rw [hw]; decide)) ?_ | refine bs_d (fun q => ?_) (fun q => ?_) | refine bs_n ?_ | refine bs_i (fun q => ?_) (fun q => ?_) | refine pK_i hix ?_ | (refine ckBk rfl rfl (closeA hB x.mo) (SubL.refl _) ?_; rintro r J2 ⟨rfl, hB2, -⟩) | refine eqk rfl ?_ | refine ffin _ rfl rfl hS (Sub.refl _) rfl ⟨?_, rfl, rfl⟩)
      conv => whnf
      exact fnext (α := BtS) ⟨i + 1, J2, ql, f, E, clN cl x.mo⟩ ⟨by simp only; omega, by simp only; omega, by simp only; omega, hB2, hT⟩ (by simp only; omega) (fstep_sub ⟨Sub.int (by first | rfl | omega | (refine Int.sub_eq_zero.mp ?_; simp (disch := ((try unfold I64); omega)) only [wi64_id, td]; omega)), Sub.refl _, Sub.refl _, Sub.refl _, trivial⟩)
    · have hlq : (addR ql (dep (look ql) x.a.up) x.a).length ≤ ql.length + 1 := (add_next (a := x.a) hok (hok.low.ends x.a.up)).1.2
      repeat' first | with_reducible refine fzD_ite (fun q => ?_) (fun q => ?_) | ((try conv => whnf); first | refine bs_t (decide_eq_true (show (i : Int) < (ats l).length by omega)) ?_ | refine bs_t (decide_eq_true hw) ?_ | refine bs_f (decide_eq_false (show ¬ x.what.tmod 4 = 0 by rw [hw]; decide)) ?_ | refine bs_f (decide_eq_false (show ¬ x.what.tmod 4 = 1 by rw [hw]; decide)) ?_ | refine bs_d (fun q => ?_) (fun q => ?_) | refine bs_n ?_ | refine bs_i (fun q => ?_) (fun q => ?_) | refine pK_i hix ?_ | (refine ckBk rfl rfl (addK hB x.a (by omega)) (SubL.refl _) ?_; rintro r J2 ⟨n, rfl, hB2, -⟩) | refine eqk rfl ?_ | refine ffin _ rfl rfl hS (Sub.refl _) rfl ⟨?_, rfl, rfl⟩)
      conv => whnf
      exact fnext (α := BtS) ⟨i + 1, J2, addR ql (dep (look ql) x.a.up) x.a, f, E, cl⟩ ⟨by simp only; omega, by simp only; omega, by simp only; omega, hB2, hT.add⟩ (by simp only; omega) (fstep_sub ⟨Sub.int (by first | rfl | omega | (refine Int.sub_eq_zero.mp ?_; simp (disch := ((try unfold I64); omega)) only [wi64_id, td]; omega)), Sub.refl _, Sub.refl _, Sub.refl _, trivial⟩)
    · have hlq : (if shutRE ql x.a.code = 0 then shR ql x.a.code else ql).length = ql.length := (shut_next (c := x.a.code) hok).1.2
      repeat' first | with_reducible refine fzD_ite (fun q => ?_) (fun q => ?_) | ((try conv => whnf); first | refine bs_t (decide_eq_true (show (i : Int) < (ats l).length by omega)) ?_ | refine bs_t (decide_eq_true hw) ?_ | refine bs_f (decide_eq_false (show ¬ x.what.tmod 4 = 0 by rw [hw]; decide)) ?_ | refine bs_f (decide_eq_false (show ¬ x.what.tmod 4 = 1 by rw [hw]; decide)) ?_ | refine bs_f (decide_eq_false (show ¬ x.what.tmod 4 = 2 by rw [hw]; decide)) ?_ | refine bs_d (fun q => ?_) (fun q => ?_) | refine bs_n ?_ | refine bs_i (fun q => ?_) (fun q => ?_) | refine pK_i hix ?_ | (refine ckBk rfl rfl (shutK hB x.a.code) (SubL.refl _) ?_; rintro r J2 ⟨n, rfl, hB2, -⟩) | refine eqk rfl ?_ | refine ffin _ rfl rfl hS (Sub.refl _) rfl ⟨?_, rfl, rfl⟩)
      conv => whnf
      exact fnext (α := BtS) ⟨i + 1, J2, (if shutRE ql x.a.code = 0 then shR ql x.a.code else ql), f, E, cl⟩ ⟨by simp only; omega, by simp only; omega, by simp only; omega, hB2, hT.shut⟩ (by simp only; omega) (fstep_sub ⟨Sub.int (by first | rfl | omega | (refine Int.sub_eq_zero.mp ?_; simp (disch := ((try unfold I64); omega)) only [wi64_id, td]; omega)), Sub.refl _, Sub.refl _, Sub.refl _, trivial⟩)
  obtain ⟨t, ht⟩ : ∃ t, t = triL ql f := ⟨_, rfl⟩
  have htl : t.length ≤ ql.length := by rw [ht]; exact triL_len ql f
  have htm : ∀ b ∈ t, _ := fun b hb => tri_mem hT hB.I (b := b) (ht ▸ hb)
  have htr : (t.map Ba.acc).Pairwise (· < ·) := ht ▸ tri_rise hB.ok
  have hts : (boL t).sum = 0 := ht ▸ boL_sum hT hB.I
  have hti : ∀ n ∈ boL t, I64 n := ht ▸ boL_I hT hB.I
  have hbt := bas_len t
  repeat' first | with_reducible refine fzD_ite (fun q => ?_) (fun q => ?_) | ((try conv => whnf); first | refine bs_f (decide_eq_false (show ¬ (i : Int) < (ats l).length by omega)) ?_ | refine bs_d (fun q => ?_) (fun q => ?_) | refine bs_n ?_ | refine bs_i (fun q => ?_) (fun q => ?_) | refine ckA rfl rfl (triK hB ht.symm) ?_ | refine eqk rfl ?_ | refine ffin _ rfl rfl hS (Sub.refl _) rfl ⟨?_, rfl, rfl⟩)
  conv => whnf
  refine floop (α := Nat) rfl rfl hS (fun k => k ≤ t.length) (fun k => t.length - k) (fun k => [(8, .d (.int .i64 k)), (7, .d (.gsl (i64s (boL (t.take k))) (tk.length + 0))), (6, .d (.sl (bas t))), (4, .d (.po (S.length + 3) 0)), (3, .d (.po (S.length + 1) 0))]) (fun _ => J) (fun k => [((i64s (boL (t.take k))).length, 2, 1)]) 0 (Nat.zero_le _) (fstep_tok 2 1 (t := 7) (.inl rfl) ⟨Sub.refl _, Sub.refl _, Sub.refl _, Sub.refl _, Sub.refl _, trivial⟩) ?_
  intro k hk
  by_cases hkl : k < t.length
  · have hib := iaD_ba (l := t) (i := k) (n := (k : Int)) rfl hkl
    obtain ⟨n, n0, n1, n2, hde, hcr⟩ := htm _ (mem_at hkl)
    have hst := boL_snoc hkl
    have hbl := boL_len (t.take k)
    rw [List.length_take] at hbl
    have hri : 0 < k → (t[k - 1]!).acc < (t[k]!).acc := fun h0 => by
      rw [getElem!_pos t k hkl, getElem!_pos t (k - 1) (by omega)]
      have := List.pairwise_iff_getElem.1 htr (k - 1) k (by simp; omega) (by simpa using hkl) (by omega)
      simpa using this
    have hib1 : 0 < k → iaD 3 (.sl (bas t)) (.int .i64 (IntKind.wrap .i64 ((k : Int) - 1))) = some (.pe (t[k - 1]!).cs 0) := fun h0 => iaD_ba (i := k - 1) (by rw [wi64_id (by unfold I64; omega)]; omega) (by omega)
    generalize t[k - 1]! = b0 at hri hib1
    generalize t[k]! = b at hib hst hri hde hcr
    have d0 : ¬ b.deb < 0 := by omega
    have c0 : ¬ b.cre < 0 := by omega
    have hgl : i64s (boL (t.take k)) ++ [[.int .i64 b.deb], [.int .i64 (IntKind.wrap .i64 (0 - b.cre))]] = i64s (boL (t.take (k + 1))) := by rw [hst, i64s, i64s, List.map_append]; rfl
    have hsg : (¬ b.deb = 0 ∧ b.cre = 0) ∨ (b.deb = 0 ∧ ¬ b.cre = 0) := by omega
    rcases hsg with ⟨a1, a2⟩ | ⟨b1, b2⟩ <;> by_cases hk0 : 0 < k
    all_goals
      repeat' first | with_reducible refine fzD_ite (fun q => ?_) (fun q => ?_) | ((try conv => whnf); first | refine bs_t (decide_eq_true (show (k : Int) < (bas t).length by omega)) ?_ | refine bs_f (decide_eq_false d0) ?_ | refine bs_f (decide_eq_false c0) ?_ | refine bs_f (decide_eq_false a1) ?_ | refine bs_t (decide_eq_true a2) ?_ | refine bs_t (decide_eq_true b1) ?_ | refine bs_f (decide_eq_false b2) ?_ | refine bs_t (decide_eq_true (show 0 < (k : Int) by omega)) ?_ | refine bs_f (decide_eq_false (show ¬ 0 < (k : Int) by omega)) ?_ | refine bs_f (decide_eq_false (show ¬ b.acc ≤ b0.acc from Int.not_le.2 (hri hk0))) ?_ | refine bs_d (fun q => ?_) (fun q => ?_) | refine bs_n ?_ | refine bs_i (fun q => ?_) (fun q => ?_) | refine pK_i hib ?_ | refine pK_i (hib1 hk0) ?_ | (refine gk_app (t := 0) (src := [[.int .i64 b.deb], [.int .i64 (IntKind.wrap .i64 (0 - b.cre))]]) rfl rfl (by rfl) (by rfl) (by rfl) (by simp) (by rw [i64s_len, hbl]; simp [maxLen]; omega) ?_; rw [hgl]) | refine eqk rfl ?_ | refine ffin _ rfl rfl hS (Sub.refl _) rfl ⟨?_, rfl, rfl⟩)
    all_goals
      conv => whnf
      exact fnext (α := Nat) (k + 1) (by omega) (by omega) (fstep_sub ⟨Sub.int (by first | rfl | omega | (refine Int.sub_eq_zero.mp ?_; simp (disch := ((try unfold I64); omega)) only [wi64_id, td]; omega)), Sub.refl _, Sub.refl _, Sub.refl _, Sub.refl _, trivial⟩)
  obtain rfl : k = t.length := by omega
  rw [List.take_length]
  have hok := hB.ok
  have hlq := hB.lq
  obtain ⟨oc, hkc, hcc⟩ := hB.k
  have hsum := Sum (boL t) (by rw [boL_len]; omega) hti
  rw [sumS, hts, if_pos ⟨by decide, by decide⟩] at hsum
  have hal := acsL_len ql
  repeat' first | with_reducible refine fzD_ite (fun q => ?_) (fun q => ?_) | ((try conv => whnf); first | refine bs_f (decide_eq_false (show ¬ (t.length : Int) < (bas t).length by omega)) ?_ | refine bs_t (decide_eq_true rfl) ?_ | refine bs_d (fun q => ?_) (fun q => ?_) | refine bs_n ?_ | refine bs_i (fun q => ?_) (fun q => ?_) | refine ckS (by first | rfl | simp) rfl hsum (.cons (Sub.rd rfl) .nil) ?_ | refine ckA rfl rfl (all_cN hok hcc hB.c hkc hlq) ?_ | refine eqk rfl ?_ | refine ffin _ rfl rfl hS (Sub.refl _) rfl ⟨?_, rfl, rfl⟩)
  conv => whnf
  refine floop (α := Nat) rfl rfl hS (fun j => j ≤ ql.length ∧ ∀ n ∈ topL ql f (ql.take j), I64 n) (fun j => ql.length - j) (fun j => [(13, .d (.int .i64 j)), (12, .d (.gsl (i64s (topL ql f (ql.take j))) (tk.length + 1))), (11, .d (.sl (acsL ql))), (4, .d (.po (S.length + 3) 0))]) (fun _ => J) (fun j => [((i64s (boL t)).length, 2, 1), ((i64s (topL ql f (ql.take j))).length, 2, 1)]) 0 ⟨Nat.zero_le _, fun n hn => by simp [topL] at hn⟩ (fstep_tok 2 1 (t := 12) (.inl rfl) ⟨Sub.refl _, Sub.refl _, Sub.refl _, Sub.refl _, trivial⟩) ?_
  rintro j ⟨hj, hjI⟩
  by_cases hjl : j < ql.length
  · have hia := iaD_ac (l := ql) (i := j) (n := (j : Int)) rfl hjl
    have hst := topL_snoc ql f hjl
    have htll : (topL ql f (ql.take j)).length ≤ j := by
      unfold topL
      rw [List.length_map]
      have := List.length_filter_le (fun a : Go.KL.YtkojphmejddhiaaDoor.Ac => decide (a.up = 0)) (ql.take j)
      rw [List.length_take] at this; omega
    have hsome : (look ql (ql[j]!).code).isSome = true := by rw [look_of hok.rise (mem_at hjl)]; rfl
    generalize ql[j]! = a at hia hst hsome
    by_cases hu : a.up = 0
    · rw [if_pos hu] at hst
      by_cases hfit : -9223372036854775808 ≤ (undV ql f a.code).sum ∧ (undV ql f a.code).sum < 9223372036854775808
      · have hbal : balS ql f a.code = .tup [.int .i64 (undV ql f a.code).sum, .int .i64 0] := by rw [balS, if_pos hsome, if_pos hfit]
        obtain ⟨v, hv⟩ : ∃ v, v = (undV ql f a.code).sum := ⟨_, rfl⟩
        rw [← hv] at hbal hst hfit
        have hgl : i64s (topL ql f (ql.take j)) ++ [[.int .i64 v]] = i64s (topL ql f (ql.take (j + 1))) := by rw [hst, i64s, i64s, List.map_append]; rfl
        repeat' first | with_reducible refine fzD_ite (fun q => ?_) (fun q => ?_) | ((try conv => whnf); first | refine bs_t (decide_eq_true (show (j : Int) < (acsL ql).length by omega)) ?_ | refine bs_t (decide_eq_true hu) ?_ | refine bs_d (fun q => ?_) (fun q => ?_) | refine bs_n ?_ | refine bs_i (fun q => ?_) (fun q => ?_) | refine pK_i hia ?_ | refine ckA rfl rfl (balK hB a.code hbal) ?_ | (refine gk_app (t := 1) (src := [[.int .i64 v]]) rfl rfl (by rfl) (by rfl) (by rfl) (by simp) (by rw [i64s_len]; simp [maxLen]; omega) ?_; rw [hgl]) | refine eqk rfl ?_ | refine ffin _ rfl rfl hS (Sub.refl _) rfl ⟨?_, rfl, rfl⟩)
        conv => whnf
        refine fnext (α := Nat) (j + 1) ⟨by omega, fun n hn => ?_⟩ (by omega) (fstep_sub ⟨Sub.int (by first | rfl | omega | (refine Int.sub_eq_zero.mp ?_; simp (disch := ((try unfold I64); omega)) only [wi64_id, td]; omega)), Sub.refl _, Sub.refl _, Sub.refl _, trivial⟩)
        rw [hst] at hn
        rcases List.mem_append.1 hn with hn | hn
        · exact hjI n hn
        · rw [List.mem_singleton.1 hn]; exact hfit
      · have hbal : balS ql f a.code = .tup [.int .i64 0, .int .i64 211] := by rw [balS, if_pos hsome, if_neg hfit]
        repeat' first | with_reducible refine fzD_ite (fun q => ?_) (fun q => ?_) | ((try conv => whnf); first | refine bs_t (decide_eq_true (show (j : Int) < (acsL ql).length by omega)) ?_ | refine bs_t (decide_eq_true hu) ?_ | refine bs_d (fun q => ?_) (fun q => ?_) | refine bs_n ?_ | refine bs_i (fun q => ?_) (fun q => ?_) | refine pK_i hia ?_ | refine ckA rfl rfl (balK hB a.code hbal) ?_ | refine ckz (head_b) ?_ | refine cq (head_b) ?_ | refine eqk rfl ?_ | refine ffin _ rfl rfl hS (Sub.refl _) rfl ⟨?_, rfl, rfl⟩)
        all_goals rfl
    · rw [if_neg hu, List.append_nil] at hst
      repeat' first | with_reducible refine fzD_ite (fun q => ?_) (fun q => ?_) | ((try conv => whnf); first | refine bs_t (decide_eq_true (show (j : Int) < (acsL ql).length by omega)) ?_ | refine bs_f (decide_eq_false hu) ?_ | refine bs_d (fun q => ?_) (fun q => ?_) | refine bs_n ?_ | refine bs_i (fun q => ?_) (fun q => ?_) | refine pK_i hia ?_ | refine eqk rfl ?_ | refine ffin _ rfl rfl hS (Sub.refl _) rfl ⟨?_, rfl, rfl⟩)
      conv => whnf
      rw [← hst]
      exact fnext (α := Nat) (j + 1) ⟨by omega, by rw [hst]; exact hjI⟩ (by omega) (fstep_J rfl ⟨Sub.int (by first | rfl | omega | (refine Int.sub_eq_zero.mp ?_; simp (disch := ((try unfold I64); omega)) only [wi64_id, td]; omega)), Sub.of (by rw [hst]; rfl), Sub.refl _, Sub.refl _, trivial⟩)
  · obtain rfl : j = ql.length := by omega
    rw [List.take_length] at hjI ⊢
    have htop := top_sum hok hT
    have htl2 : (topL ql f ql).length ≤ ql.length := by
      unfold topL
      rw [List.length_map]
      exact List.length_filter_le ..
    have hsum2 := Sum (topL ql f ql) (by omega) hjI
    rw [sumS, htop, if_pos ⟨by decide, by decide⟩] at hsum2
    repeat' first | with_reducible refine fzD_ite (fun q => ?_) (fun q => ?_) | ((try conv => whnf); first | refine bs_f (decide_eq_false (show ¬ (ql.length : Int) < (acsL ql).length by omega)) ?_ | refine bs_t (decide_eq_true rfl) ?_ | refine bs_d (fun q => ?_) (fun q => ?_) | refine bs_n ?_ | refine bs_i (fun q => ?_) (fun q => ?_) | refine ckS (by first | rfl | simp) rfl hsum2 (.cons (Sub.rd rfl) .nil) ?_ | refine ckz (head_b) ?_ | refine cq (head_b) ?_ | refine eqk rfl ?_ | refine ffin _ rfl rfl hS (Sub.refl _) rfl ⟨?_, rfl, rfl⟩)
    all_goals rfl
end Go.KL.YtkojphmejddhiaaDoor.J
