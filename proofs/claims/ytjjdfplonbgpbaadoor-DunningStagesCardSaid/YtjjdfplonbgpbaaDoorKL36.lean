/- Calls over a row of the walk's own; the entry of a map that is ranged over. -/
import Derived.Test.YtjjdfplonbgpbaaDoorKL35
set_option linter.unusedVariables false
set_option linter.unusedSimpArgs false
namespace Go.KL
open Go Go.RowKit
section
variable {E : Env} {n0 m0 : Nat} {fr : Fr} {S J : List O} {T TK : Tks}
variable {α : Type} {vl : α → D} {sz : Nat} {ag : Bool} {ety : TypeId}
/-- a call turns a row of the walk's own -/
theorem ckVEJ {f : FuncId} {ds ds' : List D} {K : FD → List O → List O → Tks → Tks → Prop} {G : D → Array α → Prop} {k : Nat} {d : Array α} (hn : S.length = n0) (hm : T.length = m0) (hJ : J[k]? = some (VO vl ety sz d))
    (h : ∀ (S0 : List O) (tk : Tks), n0 + k < S0.length → ACalls E f ds' (S0.set (n0 + k) (VO vl ety sz d)) tk (fun r' S' tk' => ∃ d', G r' d' ∧ S' = S0.set (n0 + k) (VO vl ety sz d') ∧ tk' = tk)) (hs : SubL ds ds')
    (hk : ∀ r d', G r d' → fzD r fun r => K (.d r) S (J.set k (VO vl ety sz d')) T TK) : CK E n0 m0 f ds S J T TK K := by
  have hk' : k < J.length := (List.getElem?_eq_some_iff.1 hJ).1
  have h1 := h (S ++ J) (T ++ TK) (by rw [List.length_append]; omega)
  have h2 : (S ++ J).set (n0 + k) (VO vl ety sz d) = S ++ J := by
    obtain ⟨a, b⟩ := List.getElem?_eq_some_iff.1 (at_own hn hJ)
    rw [← b, List.set_getElem_self]
  rw [h2] at h1
  refine ckG (h1.sub hs) ?_
  rintro r' S' tk' ⟨d', hG, rfl, rfl⟩
  exact ⟨S, J.set k _, T, TK, set_own hn, rfl, hn, hm, hk _ _ hG⟩
/-- a round that goes on -/
theorem ykT {id : Nat} {ds : List D} {K : FD → List O → List O → Tks → Tks → Prop} {S1 J1 : List O} (h : AYields E id ds (S ++ J) (T ++ TK) (fun r S' tk' => r = .bool true ∧ S' = S1 ++ J1 ∧ tk' = T ++ TK)) (hm : T.length = m0) (hn : S1.length = n0)
    (hk : K (.d (.bool true)) S1 J1 T TK) : YK E n0 m0 id ds S J T TK K :=
  ⟨h.mono fun r S' tk' ⟨h1, h2, h3⟩ => ⟨S1, J1, T, TK, h2, h3, hn, hm, h1 ▸ hk⟩⟩
theorem entD_own {k mid since clk : Nat} {seen : List Nat} {kt : KT} {kv : Kv} {p : D × D × Nat} (hn : S.length = n0) (hJ : J[k]? = some (.iter mid since (seen ++ [p.2.2]) clk)) (hM : (S ++ J)[mid]? = some (.map kt kv clk)) (hp : p ∈ kv) (hd : ∀ q ∈ kv, q.2.2 = p.2.2 → q = p) :
    entD (S ++ J) (.po (n0 + k) 0) = some (.tup [p.1, p.2.1]) := by
  have hf : kv.find? (fun q => q.2.2 == p.2.2) = some p := by
    cases h : kv.find? (fun q => q.2.2 == p.2.2) with
    | none => exact absurd (by simp) (List.find?_eq_none.1 h p hp)
    | some q =>
      have h1 := List.find?_some h
      rw [hd q (List.mem_of_find?_eq_some h) (by simpa using h1)]
  simp only [entD, at_own hn hJ, hM, List.getLast?_concat, if_true, hf, Option.map]
end
end Go.KL
