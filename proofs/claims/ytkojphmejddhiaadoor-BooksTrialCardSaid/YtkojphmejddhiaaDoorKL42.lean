/- Growing rows of older frames; yields and ends that keep what was made. -/
import Derived.Test.YtkojphmejddhiaaDoorKL41
import Derived.Test.YtkojphmejddhiaaDoorKL36
set_option linter.unusedVariables false
set_option linter.unusedSimpArgs false
namespace Go.KL
open Go Go.RowKit
section
variable {E : Env} {n0 m0 : Nat} {fr : Fr} {S J : List O} {T TK : Tks}
/-- append to a growing row of an older frame -/
theorem gk_app_oldt {T' e : TypeId} {sz bytes : Nat} {zs : List D} {x y : Opd} {es src : List (List D)} {t : Nat} {K : FD → List O → List O → Tks → Tks → Prop} (hn : S.length = n0) (hm : T.length = m0) (hx : fev E fr x = .d (.gsl es t)) (hy : ((fev E fr y).to n0).rd = some src) (ht : T[t]? = some (es.length, e, sz)) (hs : ∀ s ∈ src, s.length = sz)
    (hl : es.length + src.length ≤ maxLen ∧ (es.length + src.length) * bytes ≤ 140737488355328) (hk : K (.d (.gsl (es ++ src) t)) S J (T.set t ((es ++ src).length, e, sz)) TK) : GK E n0 m0 (.app T' e sz bytes zs x y) fr S J T TK K := by
  refine ⟨?_⟩
  simp only [aop]
  rw [← fev_to y, srcD_rd hy]
  simp only
  rw [← fev_to x, hx]
  have hlt : t < T.length := (List.getElem?_eq_some_iff.1 ht).1
  exact ⟨⟨by rw [List.getElem?_append_left hlt]; exact ht, hs, hl.1, hl.2⟩, S, J, T.set t _, TK, rfl, List.set_append_left _ _ hlt, hn, by rw [List.length_set, hm], (fzD_eq _ _).2 hk⟩
/-- a round of a loop over this function: any contract -/
theorem ykG {id : Nat} {ds : List D} {K : FD → List O → List O → Tks → Tks → Prop} {P : D → List O → Tks → Prop} (h : AYields E id ds (S ++ J) (T ++ TK) P) (hk : ∀ r S' tk', P r S' tk' → kAll n0 m0 K r S' tk') : YK E n0 m0 id ds S J T TK K := ⟨h.mono hk⟩
/-- the end of a walk that keeps some of what was made -/
theorem ffinK {d d' : D} {S1 J1 : List O} {T1 TX : Tks} {Post : D → List O → Tks → Prop} (hSJ : S ++ J = S1 ++ J1) (hTT : T ++ TK = T1 ++ TX) (h0 : n0 ≤ S1.length) (h1 : m0 ≤ T1.length) (hs : Sub d d') (hsc : d'.sc S1.length T1.length = true) (hS : OSc S1.length T1.length S1) (hp : Post d' S1 T1) :
    FFin E n0 m0 S J T TK d Post := by
  refine ⟨d', S1, T1, ?_, hp⟩
  rw [hSJ, hTT]
  exact Shift.drop (by exact ⟨by simpa [KL.get] using hs, trivial⟩) h0 h1 (by simp [frSc, hsc]) hS
theorem gk_ment_old {kt : KT} {z : D} {x k : Opd} {id clk : Nat} {kv : Kv} {K : FD → List O → List O → Tks → Tks → Prop} (hn : S.length = n0) (hm : T.length = m0) (hx : fev E fr x = .d (.map id)) (hS : S[id]? = some (.map kt kv clk)) (hkk : kOK kt ((fev E fr k).to n0) = true)
    (hk : fzD (.tup [mget z kv ((fev E fr k).to n0), .int .i64 (mborn kv clk ((fev E fr k).to n0))]) fun d => K (.d d) (S.set id (.map kt (ment kv clk ((fev E fr k).to n0) z) (mclk kv clk ((fev E fr k).to n0)))) J T TK) : GK E n0 m0 (.ment kt z x k) fr S J T TK K := by
  refine ⟨?_⟩
  simp only [aop, ← fev_to (n := n0) x, hx, FD.to, at_old hS]
  rw [fev_to] at hkk hk
  exact ⟨⟨trivial, hkk⟩, S.set id _, J, T, TK, set_old (lt_of_at hS), rfl, by rw [List.length_set, hn], hm, hk⟩
theorem gk_mest_old {x s v : Opd} {id clk : Nat} {kt : KT} {kv : Kv} {n : Int} {K : FD → List O → List O → Tks → Tks → Prop} (hn : S.length = n0) (hm : T.length = m0) (hx : fev E fr x = .d (.map id)) (hs : fev E fr s = .d (.int .i64 n)) (hS : S[id]? = some (.map kt kv clk)) (h0 : 0 ≤ n ∧ ∃ p ∈ kv, p.2.2 = n.toNat)
    (hk : K (.d .top) (S.set id (.map kt (mstamp kv n.toNat ((fev E fr v).to n0)) clk)) J T TK) : GK E n0 m0 (.mest x s v) fr S J T TK K := by
  refine ⟨?_⟩
  simp only [aop, ← fev_to (n := n0) x, ← fev_to (n := n0) s, hx, hs, FD.to, at_old hS]
  rw [fev_to] at hk
  exact ⟨h0, S.set id _, J, T, TK, set_old (lt_of_at hS), rfl, by rw [List.length_set, hn], hm, hk⟩

theorem gk_ment_oldE {kt : KT} {z dv : D} {x k : Opd} {id clk clk' n : Nat} {kv kv' : Kv} {kd : D} {K : FD → List O → List O → Tks → Tks → Prop} (hn : S.length = n0) (hm : T.length = m0) (hx : fev E fr x = .d (.map id)) (hS : S[id]? = some (.map kt kv clk)) (hkd : (fev E fr k).to n0 = kd) (hkk : kOK kt kd = true)
    (h1 : mget z kv kd = dv) (h2 : mborn kv clk kd = n) (h3 : ment kv clk kd z = kv') (h4 : mclk kv clk kd = clk') (hk : fzD (.tup [dv, .int .i64 n]) fun d => K (.d d) (S.set id (.map kt kv' clk')) J T TK) : GK E n0 m0 (.ment kt z x k) fr S J T TK K := by
  subst hkd; subst h1; subst h2; subst h3; subst h4
  exact gk_ment_old hn hm hx hS hkk hk
theorem gk_mest_oldE {x s v : Opd} {id clk : Nat} {kt : KT} {kv kv' : Kv} {n : Nat} {vd : D} {K : FD → List O → List O → Tks → Tks → Prop} (hn : S.length = n0) (hm : T.length = m0) (hx : fev E fr x = .d (.map id)) (hs : fev E fr s = .d (.int .i64 n)) (hS : S[id]? = some (.map kt kv clk)) (h0 : ∃ p ∈ kv, p.2.2 = n)
    (hvd : (fev E fr v).to n0 = vd) (h1 : mstamp kv n vd = kv') (hk : K (.d .top) (S.set id (.map kt kv' clk)) J T TK) : GK E n0 m0 (.mest x s v) fr S J T TK K := by
  subst hvd; subst h1
  refine gk_mest_old hn hm hx hs hS ⟨by omega, by simpa using h0⟩ ?_
  simpa using hk

/-! ## loops in which everything may change -/
structure FStp (E : Env) (n0 m0 : Nat) (fr : Fr) (S J : List O) (T TK : Tks) (fr' : Fr) (S' J' : List O) (T' TK' : Tks) : Prop where
  h : Shift E n0 m0 (sT n0 fr S J T TK) (sT n0 fr' S' J' T' TK')
theorem fstp_sub {fr' : Fr} {S' J' : List O} {T' TK' : Tks} (hS : S ++ J = S' ++ J') (hT : T ++ TK = T' ++ TK') (h : FrSub n0 fr fr') : FStp E n0 m0 fr S J T TK fr' S' J' T' TK' := by
  refine ⟨?_⟩
  unfold sT
  rw [hS, hT]
  exact Shift.frame h.le
theorem fstp_drop {fr' : Fr} {J' Jx : List O} {T' TK' : Tks} (hJ : J = J' ++ Jx) (hT : T ++ TK = T' ++ TK') (h : FrSub n0 fr fr') (hn : n0 ≤ (S ++ J').length) (hm : m0 ≤ (T' ++ TK').length) (hsc : frSc (S ++ J').length (T' ++ TK').length (frD n0 fr') = true) (hS : OSc (S ++ J').length (T' ++ TK').length (S ++ J')) :
    FStp E n0 m0 fr S J T TK fr' S J' T' TK' := by
  refine ⟨?_⟩
  subst hJ
  unfold sT
  rw [hT]
  have := Shift.drop (E := E) (n0 := n0) (m0 := m0) (fr := frD n0 fr) (fr' := frD n0 fr') (S := S ++ J') (J := Jx) (tk := T' ++ TK') (J' := []) h.le hn hm hsc hS
  rw [List.append_nil, List.append_assoc] at this
  exact this
structure FNextW (E : Env) (n0 m0 : Nat) {α : Type} (P : α → Prop) (μ : α → Nat) (gf : α → Fr) (gS gJ : α → List O) (gT gK : α → Tks) (a : α) (fr : Fr) (S J : List O) (T TK : Tks) : Prop where
  h : ∃ a', P a' ∧ μ a' < μ a ∧ FStp E n0 m0 fr S J T TK (gf a') (gS a') (gJ a') (gT a') (gK a')
theorem fnextW {α : Type} {P : α → Prop} {μ : α → Nat} {gf : α → Fr} {gS gJ : α → List O} {gT gK : α → Tks} {a : α} (a' : α) (h1 : P a') (h2 : μ a' < μ a) (h3 : FStp E n0 m0 fr S J T TK (gf a') (gS a') (gJ a') (gT a') (gK a')) :
    FNextW E n0 m0 P μ gf gS gJ gT gK a fr S J T TK := ⟨a', h1, h2, h3⟩
def FRdW (E : Env) (n0 m0 : Nat) {α : Type} (P : α → Prop) (μ : α → Nat) (gf : α → Fr) (gS gJ : α → List O) (gT gK : α → Tks) (a : α) (Q : X → FK) : X → FK := fun x fr S J T TK => match x with
  | .nm => FNextW E n0 m0 P μ gf gS gJ gT gK a fr S J T TK
  | .ex id => Q (.ex id) fr S J T TK
  | .rt => Q .rt fr S J T TK
theorem floopW {W : Fr → List O → List O → Tks → Tks → (X → FK) → Prop} {Q : X → FK} {α : Type} (P : α → Prop) (μ : α → Nat) (gf : α → Fr) (gS gJ : α → List O) (gT gK : α → Tks) (hl : ∀ a, P a → (gS a).length = n0 ∧ (gT a).length = m0) (a0 : α) (hP : P a0)
    (h0 : FStp E n0 m0 fr S J T TK (gf a0) (gS a0) (gJ a0) (gT a0) (gK a0)) (hb : ∀ a, P a → W (gf a) (gS a) (gJ a) (gT a) (gK a) (FRdW E n0 m0 P μ gf gS gJ gT gK a Q)) : FLoop E n0 m0 W fr S J T TK Q := by
  refine ⟨fun n fr S' J T' TK => ∃ a, P a ∧ μ a = n ∧ fr = gf a ∧ S' = gS a ∧ J = gJ a ∧ T' = gT a ∧ TK = gK a, μ a0, gf a0, gS a0, gJ a0, gT a0, gK a0, h0.h, ⟨a0, hP, rfl, rfl, rfl, rfl, rfl, rfl⟩, ?_⟩
  rintro n fr S' J T' TK ⟨a, ha, rfl, rfl, rfl, rfl, rfl, rfl⟩
  refine ⟨hl a ha, _, hb a ha, fun fr S' J T' TK h => ?_, fun id fr S' J T' TK h => h, fun fr S' J T' TK h => h⟩
  obtain ⟨a', h1, h2, h3⟩ := h.h
  exact ⟨μ a', gf a', gS a', gJ a', gT a', gK a', h2, h3.h, a', h1, rfl, rfl, rfl, rfl, rfl, rfl⟩
/-- a round that goes on, whose variables are objects of its own -/
theorem fyieldJ {id : Nat} {L : LI} {ps : List Nat} {asg bod : AC} (hR : RoundOf E L ps asg bod) (hn1 : noRfn asg = true) (hn2 : noRfn bod = true) (hc1 : noCut asg = true) (hc2 : noCut bod = true) {ds : List D} {S : List O} {tk : Tks} {fr : List (Nat × D)} {Post : D → List O → Tks → Prop}
    (hS : S[id]? = some (.lp L fr .ready none)) (hl : ps.length = ds.length)
    (h : OSc S.length tk.length S → fWp E S.length tk.length asg (ffD (frP ps ds fr)) S [] tk [] fun x fr1 S1 J1 T1 TK1 => match x with
      | .nm => S1 = S ∧ T1 = tk ∧ fWp E S.length tk.length bod fr1 (S.set id (.lp L fr .busy none)) J1 tk TK1 (FRnd E S.length tk.length id L fr Post)
      | _ => False) : AYields E id ds S tk Post := by
  refine AYields.intro hR hn1 hn2 hS hl fun hO => ?_
  have h1 := fWp_sound asg rfl rfl (h hO)
  rw [erase_id asg hc1] at h1
  simp only [sT, ffD_frD, List.append_nil] at h1
  refine AWp.mono asg ?_ h1
  rintro x st ⟨fr1, S1, J1, T1, TK1, rfl, k1, k2, k3⟩
  cases x with
  | ex i => exact k3.elim
  | rt => exact k3.elim
  | nm =>
    obtain ⟨rfl, rfl, k4⟩ := k3
    refine ⟨rfl, at_old hS, ?_⟩
    have h2 := fWp_sound bod (by rw [List.length_set]) rfl k4
    rw [erase_id bod hc2] at h2
    simp only [sT] at h2 ⊢
    rw [set_old (lt_of_at hS)]
    refine AWp.mono bod ?_ h2
    rintro x st ⟨fr2, S2, J2, T2, TK2, rfl, g1, g2, g3⟩
    cases x with
    | ex i => exact g3.elim
    | rt => exact g3.elim
    | nm => exact g3.h
end
end Go.KL
