/- A row and a count beside it. -/
import Derived.Test.YtjjdfplonbgpbaaDoorKL32
import Derived.Sort.LotD4
set_option linter.unusedVariables false
set_option linter.unusedSimpArgs false
set_option linter.unusedSectionVars false
namespace Go.KL
open Go Go.RowKit Go.Sort

theorem td {x y : Int} (h : 0 ≤ x) : x.tdiv y = x / y := Int.tdiv_eq_ediv_of_nonneg h

section
variable {α : Type} [Inhabited α] {vl : α → D} {sz : Nat} {ag : Bool} {ety : TypeId}
variable {E : Env} {n0 m0 : Nat} {fr : Fr} {S S0 J : List O} {T TK : Tks}

/-- a row, and a count at pid -/
def SwS (vl : α → D) (ety : TypeId) (sz : Nat) (S0 : List O) (pid : Nat) (k : Nat) (id : Nat) (d : Array α) : List O := (S0.set pid (.arr [.int .i64 k])).set id (VO vl ety sz d)
def SwC (vl : α → D) (ety : TypeId) (sz : Nat) (E : Env) (f : FuncId) (id pid : Nat) (ds : List D) (d : Array α) (k : Nat) (r : D) (k' : Nat) : Prop :=
  ∀ (S0 : List O) (tk : Tks), id < S0.length → pid < S0.length → id ≠ pid → ACalls E f ds (SwS vl ety sz S0 pid k id d) tk (fun r' S' tk' => r' = r ∧ S' = SwS vl ety sz S0 pid k' id d ∧ tk' = tk)

theorem SwS_len {pid k id : Nat} {d : Array α} : (SwS vl ety sz S0 pid k id d).length = S0.length := by simp [SwS]
theorem SwS_app {pid k id : Nat} {d : Array α} (hid : id < S0.length) (hp : pid < S0.length) : SwS vl ety sz (S0 ++ J) pid k id d = SwS vl ety sz S0 pid k id d ++ J := by
  unfold SwS
  rw [set_old hp, set_old (by rw [List.length_set]; exact hid)]
theorem SwS_at {pid k id : Nat} {d : Array α} (hp : pid < S0.length) (hne : id ≠ pid) : (SwS vl ety sz S0 pid k id d)[pid]? = some (.arr [.int .i64 k]) := by
  unfold SwS
  rw [List.getElem?_set_ne hne, List.getElem?_set_self hp]
theorem SwS_set {pid k k' id : Nat} {d : Array α} (hne : id ≠ pid) : (SwS vl ety sz S0 pid k id d).set pid (.arr [.int .i64 k']) = SwS vl ety sz S0 pid k' id d := by
  unfold SwS
  rw [List.set_comm _ _ hne, List.set_set]
theorem osc_Sw {pid k k' id n m : Nat} {d : Array α} (hne : id ≠ pid) (h : OSc n m (SwS vl ety sz S0 pid k id d)) : OSc n m (SwS vl ety sz S0 pid k' id d) := by
  rw [← SwS_set (k := k) hne]
  exact h.set rfl

theorem ckSw {f : FuncId} {ds ds' : List D} {K : FD → List O → List O → Tks → Tks → Prop} {r : D} {id pid k k' : Nat} {d : Array α} (hid : id < S0.length) (hp : pid < S0.length) (hne : id ≠ pid) (hn : S0.length = n0) (hm : T.length = m0)
    (h : SwC vl ety sz E f id pid ds' d k r k') (hs : SubL ds ds') (hk : fzD r fun r => K (.d r) (SwS vl ety sz S0 pid k' id d) J T TK) : CK E n0 m0 f ds (SwS vl ety sz S0 pid k id d) J T TK K := by
  refine ckG (P := fun r' S' tk' => r' = r ∧ S' = SwS vl ety sz S0 pid k' id d ++ J ∧ tk' = T ++ TK) ?_ ?_
  · have := (h (S0 ++ J) (T ++ TK) (by rw [List.length_append]; omega) (by rw [List.length_append]; omega) hne).sub hs
    rwa [SwS_app hid hp, SwS_app hid hp] at this
  · rintro r' S' tk' ⟨rfl, rfl, rfl⟩
    exact ⟨_, J, T, TK, rfl, rfl, by rw [SwS_len, hn], hm, hk⟩

/-- the count is the walk's own first object -/
theorem ckSwN {f : FuncId} {ds ds' : List D} {K : FD → List O → List O → Tks → Tks → Prop} {r : D} {id k k' : Nat} {d : Array α} (hid : id < S0.length) (hn : S0.length = n0) (hm : T.length = m0)
    (h : SwC vl ety sz E f id n0 ds' d k r k') (hs : SubL ds ds') (hk : fzD r fun r => K (.d r) (S0.set id (VO vl ety sz d)) [.arr [.int .i64 k']] T TK) : CK E n0 m0 f ds (S0.set id (VO vl ety sz d)) [.arr [.int .i64 k]] T TK K := by
  have e : ∀ (j j' : Nat), SwS vl ety sz (S0 ++ [.arr [.int .i64 (j : Int)]]) n0 j' id d = S0.set id (VO vl ety sz d) ++ [.arr [.int .i64 (j' : Int)]] := by
    intro j j'
    unfold SwS
    rw [← hn, List.set_append_right _ _ (Nat.le_refl _), Nat.sub_self, List.set_cons_zero, set_old hid]
  refine ckG (P := fun r' S' tk' => r' = r ∧ S' = S0.set id (VO vl ety sz d) ++ [.arr [.int .i64 (k' : Int)]] ∧ tk' = T ++ TK) ?_ ?_
  · have := (h (S0 ++ [.arr [.int .i64 (k : Int)]]) (T ++ TK) (by rw [List.length_append]; omega) (by rw [List.length_append, hn]; simp) (by omega)).sub hs
    rwa [e k k, e k k'] at this
  · rintro r' S' tk' ⟨rfl, rfl, rfl⟩
    exact ⟨_, [_], T, TK, rfl, rfl, by rw [List.length_set, hn], hm, hk⟩

theorem ldO_Sw {pid k id : Nat} {d : Array α} (hp : pid < S0.length) (hne : id ≠ pid) : ldO (SwS vl ety sz S0 pid k id d ++ J) pid 0 1 false = some (.int .i64 k) := ldO_old (SwS_at hp hne) rfl
theorem ldV_Sw {pid k id n i : Nat} {d : Array α} (hE : VEnc vl sz ag) (hid : id < S0.length) (hn : d.size = n) (hi : i < n) : ldV (SwS vl ety sz S0 pid k id d ++ J) id n i 0 sz ag = some (vl d[i]!) := by
  unfold SwS
  exact ldV_VO hE (by rw [List.length_set]; exact hid) hn hi
theorem gk_stSw {x v : Opd} {id pid k k' : Nat} {d : Array α} {K : FD → List O → List O → Tks → Tks → Prop} (hp : pid < S0.length) (hne : id ≠ pid) (hn : S0.length = n0) (hm : T.length = m0) (hx : fev E fr x = .d (.po pid 0)) (hv : (fev E fr v).to n0 = .int .i64 k')
    (hk : K (.d .top) (SwS vl ety sz S0 pid k' id d) J T TK) : GK E n0 m0 (.st 1 x v) fr (SwS vl ety sz S0 pid k id d) J T TK K := by
  refine gk_stpo_old (by rw [SwS_len]; exact hn) hm hx (SwS_at hp hne) hv ⟨rfl, rfl, rfl, Nat.le_refl _⟩ ?_
  have e : setC [D.int .i64 (k : Int)] 0 (D.int .i64 (k' : Int)).cs = [.int .i64 (k' : Int)] := rfl
  rw [e, SwS_set hne]
  exact hk

/-- a call that turns the row into one that is as G says -/
theorem ckVE {f : FuncId} {ds ds' : List D} {K : FD → List O → List O → Tks → Tks → Prop} {G : D → Array α → Prop} {id : Nat} {d : Array α} (hid : id < S0.length) (hn : S0.length = n0) (hm : T.length = m0)
    (h : ∀ (S0 : List O) (tk : Tks), id < S0.length → ACalls E f ds' (S0.set id (VO vl ety sz d)) tk (fun r' S' tk' => ∃ d', G r' d' ∧ S' = S0.set id (VO vl ety sz d') ∧ tk' = tk)) (hs : SubL ds ds')
    (hk : ∀ r d', G r d' → fzD r fun r => K (.d r) (S0.set id (VO vl ety sz d')) J T TK) : CK E n0 m0 f ds (S0.set id (VO vl ety sz d)) J T TK K := by
  refine ckG (P := fun r' S' tk' => ∃ d', G r' d' ∧ S' = S0.set id (VO vl ety sz d') ++ J ∧ tk' = T ++ TK) ?_ ?_
  · have := (h (S0 ++ J) (T ++ TK) (by rw [List.length_append]; omega)).sub hs
    rw [set_old hid] at this
    refine this.mono fun r S' tk' ⟨d', h1, h2, h3⟩ => ⟨d', h1, ?_, h3⟩
    rw [h2, set_old hid]
  · rintro r' S' tk' ⟨d', hG, rfl, rfl⟩
    exact ⟨_, J, T, TK, rfl, rfl, by rw [List.length_set, hn], hm, hk _ _ hG⟩
end
end Go.KL
