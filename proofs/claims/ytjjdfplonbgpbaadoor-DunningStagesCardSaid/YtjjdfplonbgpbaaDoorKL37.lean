/- Tokens in cells: a cell's nil slice that is to grow; growing with an older token. -/
import Derived.Test.YtjjdfplonbgpbaaDoorKL36
set_option linter.unusedVariables false
set_option linter.unusedSimpArgs false
namespace Go.KL
open Go Go.RowKit

theorem Shift.celltok {E : Env} {n0 m0 : Nat} {fr : List (Nat × D)} {S : List O} {tk : Tks} {id : Nat} {cs : List D} (e : TypeId) (sz : Nat) (hd : S[id]? = some (.arr cs)) (i : Nat) (hi : cs[i]? = some .nilsl) :
    Shift E n0 m0 ⟨fr, S, tk⟩ ⟨fr, S.set id (.arr (cs.set i (.gsl [] tk.length))), tk ++ [(0, e, sz)]⟩ := by
  intro B w0 c0 c w tmps h0 h1 h2 hr hf
  obtain ⟨c', k1, k2, k3, k4⟩ := hr.s.newtok e sz
  obtain ⟨cur, T, g1, g2, g3⟩ := k4.objF hd rfl
  have k5 := k4.put hd rfl (.arr (cs.set i (.gsl [] tk.length))) rfl w rfl rfl rfl rfl (by rw [g1]; simp) (fun _ _ => rfl) ⟨cur, T, g1, by simpa using g2, fun j v d hv hd => by
    by_cases hj : i = j
    · subst hj
      rw [List.getElem?_set_self (List.getElem?_eq_some_iff.1 hi).1] at hd
      cases hd
      have := g3 i v _ hv hi
      have hA := this.1.nilslInv
      refine ⟨?_, this.2⟩
      rw [hA, ← hr.s.mT]; exact k3 _
    · rw [List.getElem?_set_ne hj] at hd; exact g3 j v d hv hd⟩
  exact ⟨c', h0.trans k1, ⟨k5, hr.g.mono k1⟩, fun t => (hf t).mono k1, k1.dd⟩

section
variable {E : Env} {n0 m0 : Nat} {fr : Fr} {S J : List O} {T TK : Tks}
theorem fstep_celltok {fr' : Fr} {k : Nat} {cs : List D} (e : TypeId) (sz : Nat) (hJ : J[k]? = some (.arr cs)) (i : Nat) (hi : cs[i]? = some .nilsl) (h : FrSub n0 fr fr') :
    FStep E n0 m0 fr J TK fr' (J.set k (.arr (cs.set i (.gsl [] (m0 + TK.length))))) (TK ++ [(0, e, sz)]) := by
  refine ⟨fun S T hn hm hS => ?_⟩
  have h1 := Shift.celltok (E := E) (n0 := n0) (m0 := m0) (fr := frD n0 fr) (S := S ++ J) (tk := T ++ TK) e sz (at_own hn hJ) i hi
  rw [set_own hn, List.length_append, hm, List.append_assoc] at h1
  exact h1.trans (Shift.frame h.le)

/-- append with an older token -/
theorem gk_app_old {T' e : TypeId} {sz bytes : Nat} {zs : List D} {x y : Opd} {es src : List (List D)} {t : Nat} {K : FD → List O → List O → Tks → Tks → Prop} (hn : S.length = n0) (hm : T.length = m0) (hx : fev E fr x = .d (.gsl es t)) (hy : ((fev E fr y).to n0).rd = some src) (ht : T[t]? = some (es.length, e, sz)) (hs : ∀ s ∈ src, s.length = sz)
    (hl : es.length + src.length ≤ maxLen ∧ (es.length + src.length) * bytes ≤ 140737488355328) (hk : K (.d (.gsl (es ++ src) t)) S J (T.set t ((es ++ src).length, e, sz)) TK) : GK E n0 m0 (.app T' e sz bytes zs x y) fr S J T TK K := by
  refine ⟨?_⟩
  have hlt : t < T.length := (List.getElem?_eq_some_iff.1 ht).1
  simp only [aop]
  rw [← fev_to y, srcD_rd hy]
  simp only
  rw [← fev_to x, hx]
  refine ⟨⟨by rw [List.getElem?_append_left hlt]; exact ht, hs, hl.1, hl.2⟩, S, J, T.set t _, TK, rfl, List.set_append_left _ _ hlt, hn, by rw [List.length_set, hm], (fzD_eq _ _).2 hk⟩
end
end Go.KL
