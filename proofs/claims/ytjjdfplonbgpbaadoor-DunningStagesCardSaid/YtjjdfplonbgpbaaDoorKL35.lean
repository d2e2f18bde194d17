/- Loops over functions; a cell's nil slice that is to grow. -/
import Derived.Test.YtjjdfplonbgpbaaDoorKL34
set_option linter.unusedVariables false
set_option linter.unusedSimpArgs false
namespace Go.KL
open Go Go.RowKit

/-- the nil slice in a cell becomes an empty row of the call's own -/
theorem Shift.cellvec {E : Env} {n0 m0 : Nat} {fr : List (Nat × D)} {S : List O} {tk : Tks} {id : Nat} {cs : List D} (e : TypeId) (sz : Nat) (hd : S[id]? = some (.arr cs)) (i : Nat) (hi : cs[i]? = some .nilsl) :
    Shift E n0 m0 ⟨fr, S, tk⟩ ⟨fr, S.set id (.arr (cs.set i (.vec S.length 0 sz))) ++ [.vec [] e sz], tk⟩ := by
  intro B w0 c0 c w tmps h0 h1 h2 hr hf
  obtain ⟨c', k1, k2, k3, k4⟩ := hr.s.newvec e sz
  have hlt : id < S.length := (List.getElem?_eq_some_iff.1 hd).1
  have hd' : (S ++ [.vec [] e sz])[id]? = some (.arr cs) := by rw [List.getElem?_append_left hlt]; exact hd
  obtain ⟨cur, T, g1, g2, g3⟩ := k4.objF hd' rfl
  have k5 := k4.put hd' rfl (.arr (cs.set i (.vec S.length 0 sz))) rfl w rfl rfl rfl rfl (by rw [g1]; simp) (fun _ _ => rfl) ⟨cur, T, g1, by simpa using g2, fun j v d hv hd => by
    by_cases hj : i = j
    · subst hj
      rw [List.getElem?_set_self (List.getElem?_eq_some_iff.1 hi).1] at hd
      cases hd
      have := g3 i v _ hv hi
      have hA := this.1.nilslInv
      refine ⟨?_, this.2⟩
      rw [hA, ← hr.s.nS]; exact k3 _
    · rw [List.getElem?_set_ne hj] at hd; exact g3 j v d hv hd⟩
  rw [List.set_append_left _ _ hlt] at k5
  exact ⟨c', h0.trans k1, ⟨k5, hr.g.mono k1⟩, fun t => (hf t).mono k1, k1.dd⟩

section
variable {E : Env} {n0 m0 : Nat} {fr : Fr} {S J : List O} {T TK : Tks}
theorem fstep_cellvec {fr' : Fr} {k : Nat} {cs : List D} (e : TypeId) (sz : Nat) (hJ : J[k]? = some (.arr cs)) (i : Nat) (hi : cs[i]? = some .nilsl) (h : FrSub n0 fr fr') :
    FStep E n0 m0 fr J TK fr' (J.set k (.arr (cs.set i (.vec (n0 + J.length) 0 sz))) ++ [.vec [] e sz]) TK := by
  refine ⟨fun S T hn hm hS => ?_⟩
  have h1 := Shift.cellvec (E := E) (n0 := n0) (m0 := m0) (fr := frD n0 fr) (S := S ++ J) (tk := T ++ TK) e sz (at_own hn hJ) i hi
  rw [set_own hn, List.length_append, hn, List.append_assoc] at h1
  exact h1.trans (Shift.frame h.le)

/-- append to an older row -/
theorem gk_appv_old {T' e : TypeId} {sz bytes : Nat} {zs : List D} {x y : Opd} {es src : List (List D)} {id sz' n : Nat} {K : FD → List O → List O → Tks → Tks → Prop} (hn : S.length = n0) (hm : T.length = m0) (hx : fev E fr x = .d (.vec id n sz')) (hS : S[id]? = some (.vec es e sz)) (hel : es.length = n) (hy : srcD (S ++ J) sz ((fev E fr y).to n0) = some src) (hs : ∀ s ∈ src, s.length = sz)
    (hl : es.length + src.length ≤ maxLen ∧ (es.length + src.length) * bytes ≤ 140737488355328) (hk : K (.d (.vec id (es ++ src).length sz)) (S.set id (.vec (es ++ src) e sz)) J T TK) : GK E n0 m0 (.app T' e sz bytes zs x y) fr S J T TK K := by
  refine ⟨?_⟩
  simp only [aop]
  rw [← fev_to y, hy]
  simp only
  rw [← fev_to x, hx]
  simp only [FD.to, appP, at_old hS]
  exact ⟨⟨hel, trivial, trivial, hs, hl.1, hl.2⟩, S.set id _, J, T, TK, set_old (lt_of_at hS), rfl, by rw [List.length_set, hn], hm, (fzD_eq _ _).2 hk⟩

/-- a loop over a function that ends by itself -/
theorem frf {f : Opd} {ps : List Nat} {asg bod : AC} {L : Array Nat × Code × Code} {Q : X → FK} {g : FuncId} {caps : List D} (hn : S.length = n0) (hm : T.length = m0) (hf : fev E fr f = .d (.fn g caps)) (hok : callOK E.P g = true)
    (h : ∀ Lp, RoundOf E Lp ps asg bod → ACalls E g (.yld (n0 + J.length) :: caps) (S ++ (J ++ [.lp Lp (frD n0 fr) .ready none])) (T ++ TK) (fun r S' tk' =>
      ∃ S1 J1 Jx T1 TK1 stt, S' = S1 ++ (J1 ++ .lp Lp (frD n0 fr) stt none :: Jx) ∧ stt ≠ .busy ∧ S1.length = n0 ∧ J1.length = J.length ∧ tk' = T1 ++ TK1 ∧ T1.length = m0 ∧ Q .nm fr S1 (J1 ++ .lp Lp (frD n0 fr) .exhausted none :: Jx) T1 TK1)) :
    FRf E n0 m0 f ps asg bod L fr S J T TK Q := by
  refine ⟨?_⟩
  have he : ev E (frD n0 fr) f = .fn g caps := by rw [← fev_to, hf]; rfl
  simp only [AWp, sT, he]
  refine ⟨hok, fun Lp hR => ?_⟩
  have hl : (S ++ J).length = n0 + J.length := by rw [List.length_append, hn]
  rw [hl, List.append_assoc]
  refine (h Lp hR).mono ?_
  rintro r S' tk' ⟨S1, J1, Jx, T1, TK1, stt, rfl, h1, h2, h3, rfl, h4, h5⟩
  refine ⟨stt, none, ?_, h1, ?_⟩
  · rw [hl, ← List.append_assoc, List.getElem?_append_right (by simp [h2, h3])]; simp [h2, h3]
  · refine ⟨fr, S1, J1 ++ .lp Lp (frD n0 fr) .exhausted none :: Jx, T1, TK1, ?_, h2, h4, h5⟩
    simp only [sT, hl, St.mk.injEq, true_and, and_true]
    rw [← List.append_assoc, List.set_append_right _ _ (by simp [h2, h3])]
    simp [h2, h3]

/-- a frame as the walk by reckoning has it -/
def ffD : List (Nat × D) → Fr
  | [] => []
  | (t, d) :: r => (t, .d d) :: ffD r
theorem ffD_frD (n : Nat) : ∀ (l : List (Nat × D)), frD n (ffD l) = l
  | [] => rfl
  | (t, d) :: r => by simp only [ffD, frD, FD.to, ffD_frD n r]

structure FRndN (E : Env) (n0 m0 : Nat) (id : Nat) (L : LI) (fr : List (Nat × D)) (Post : D → List O → Tks → Prop) (S J : List O) (T TK : Tks) : Prop where
  h : (S ++ J)[id]? = some (.lp L fr .busy none) ∧ ∃ S' tk', Shift E n0 m0 ⟨[], (S ++ J).set id (.lp L fr .ready none), T ++ TK⟩ ⟨[], S', tk'⟩ ∧ Post (.bool true) S' tk'
def FRnd (E : Env) (n0 m0 : Nat) (id : Nat) (L : LI) (fr : List (Nat × D)) (Post : D → List O → Tks → Prop) : X → FK := fun x _ S J T TK => match x with
  | .nm => FRndN E n0 m0 id L fr Post S J T TK
  | _ => False
/-- a round that goes on -/
theorem fyield {id : Nat} {L : LI} {ps : List Nat} {asg bod : AC} (hR : RoundOf E L ps asg bod) (hn1 : noRfn asg = true) (hn2 : noRfn bod = true) (hc1 : noCut asg = true) (hc2 : noCut bod = true) {ds : List D} {S : List O} {tk : Tks} {fr : List (Nat × D)} {Post : D → List O → Tks → Prop}
    (hS : S[id]? = some (.lp L fr .ready none)) (hl : ps.length = ds.length)
    (h : OSc S.length tk.length S → fWp E S.length tk.length asg (ffD (frP ps ds fr)) S [] tk [] fun x fr1 S1 J1 T1 TK1 => match x with
      | .nm => S1 = S ∧ J1 = [] ∧ T1 = tk ∧ TK1 = [] ∧ fWp E S.length tk.length bod fr1 (S.set id (.lp L fr .busy none)) [] tk [] (FRnd E S.length tk.length id L fr Post)
      | _ => False) : AYields E id ds S tk Post := by
  refine AYields.intro hR hn1 hn2 hS hl fun hO => ?_
  have h1 := fWp_sound asg rfl rfl (h hO)
  rw [erase_id asg hc1] at h1
  simp only [sT, ffD_frD, List.append_nil] at h1
  refine AWp.mono asg ?_ h1
  rintro x st ⟨fr1, S1, J1, T1, TK1, rfl, k1, k2, k3⟩
  cases x with
  | ex i => exact k3.elim
  | rt => exact k3.elim
  | nm =>
    obtain ⟨rfl, rfl, rfl, rfl, k4⟩ := k3
    refine ⟨rfl, by simpa [sT] using hS, ?_⟩
    have h2 := fWp_sound bod (by rw [List.length_set]) rfl k4
    rw [erase_id bod hc2] at h2
    simp only [sT, List.append_nil] at h2 ⊢
    refine AWp.mono bod ?_ h2
    rintro x st ⟨fr2, S2, J2, T2, TK2, rfl, g1, g2, g3⟩
    cases x with
    | ex i => exact g3.elim
    | rt => exact g3.elim
    | nm => exact g3.h
end
end Go.KL
