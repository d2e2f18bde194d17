/- Growing rows as arrays of things: what the sort's walks need. -/
import Derived.Test.YtjjdfplonbgpbaaDoorKL30
set_option linter.unusedVariables false
set_option linter.unusedSimpArgs false
set_option linter.unusedSectionVars false
namespace Go.KL
open Go Go.RowKit

/-- how a thing is laid into a row -/
structure VEnc {α : Type} (vl : α → D) (sz : Nat) (ag : Bool) : Prop where
  len : ∀ x, (vl x).cs.length = sz
  var : ∀ x, (vl x).var = true
  leaf : ∀ x, allLeaf (vl x).cs = true
  rd : ∀ x, rdC (vl x).cs 0 sz ag = some (vl x)
  sc : ∀ n m x, scL n m (vl x).cs = true

def rowsV {α : Type} (vl : α → D) (l : List α) : List (List D) := l.map fun x => (vl x).cs
def VO {α : Type} (vl : α → D) (e : TypeId) (sz : Nat) (d : Array α) : O := .vec (rowsV vl d.toList) e sz

theorem rowsV_len {α : Type} (vl : α → D) (l : List α) : (rowsV vl l).length = l.length := List.length_map ..
theorem scLL_rows {α : Type} {vl : α → D} {sz : Nat} {ag : Bool} (hE : VEnc vl sz ag) (n m : Nat) : ∀ (l : List α), scLL n m (rowsV vl l) = true
  | [] => rfl
  | x :: l => by
    have h1 := hE.sc n m x
    have h2 := scLL_rows hE n m l
    unfold rowsV at h2 ⊢
    simp only [List.map_cons, scLL, h1, h2, Bool.and_self]

theorem iaD_vecN {sz id n : Nat} {kd : IntKind} {i : Int} {k : Nat} (h : i = k) (hk : k < n) : iaD sz (.vec id n sz) (.int kd i) = some (.pv id n k 0) := by
  subst h
  rw [iaD_vec (by omega) (by omega)]
  simp

theorem getElem!_lt {α : Type} [Inhabited α] {d : Array α} {i : Nat} (h : i < d.size) : d.toList[i]? = some d[i]! := by
  rw [Array.getElem?_toList, getElem!_pos d i h, Array.getElem?_eq_getElem h]

section
variable {α : Type} [Inhabited α] {vl : α → D} {sz : Nat} {ag : Bool} {ety : TypeId}
variable {E : Env} {n0 m0 : Nat} {fr : Fr} {S S0 J : List O} {T TK : Tks}

theorem at_set {id : Nat} {o : O} (h : id < S0.length) : (S0.set id o)[id]? = some o := by
  rw [List.getElem?_set_self h]

theorem ldV_VO {id n i : Nat} {d : Array α} (hE : VEnc vl sz ag) (hid : id < S0.length) (hn : d.size = n) (hi : i < n) : ldV (S0.set id (VO vl ety sz d) ++ J) id n i 0 sz ag = some (vl d[i]!) := by
  refine ldV_old (at_set hid) (by rw [rowsV_len, Array.length_toList, hn]) (row := (vl d[i]!).cs) ?_ (hE.rd _)
  rw [rowsV, List.getElem?_map, getElem!_lt (by omega)]; rfl

theorem rows_set {id i : Nat} {d : Array α} {y : α} : (rowsV vl d.toList).set i (vl y).cs = rowsV vl (d.setIfInBounds i y).toList := by
  rw [rowsV, rowsV, Array.toList_setIfInBounds, List.map_set]

theorem gk_stVO {x v : Opd} {id m i : Nat} {d : Array α} {y : α} {K : FD → List O → List O → Tks → Tks → Prop} (hE : VEnc vl sz ag) (hid : id < S0.length) (hn : S0.length = n0) (hm : T.length = m0) (hx : fev E fr x = .d (.pv id m i 0)) (hd : d.size = m) (hi : i < m) (hv : (fev E fr v).to n0 = vl y)
    (hk : K (.d .top) (S0.set id (VO vl ety sz (d.setIfInBounds i y))) J T TK) : GK E n0 m0 (.st sz x v) fr (S0.set id (VO vl ety sz d)) J T TK K := by
  refine gk_stpv_old (by rw [List.length_set]; exact hn) hm hx (at_set hid) (row := (vl d[i]!).cs) (by rw [rowsV, List.getElem?_map, getElem!_lt (by omega)]; rfl) hv ⟨hE.var y, hE.leaf y, hE.len y, by rw [rowsV_len, Array.length_toList]; exact hd, by rw [hE.len]; omega⟩ ?_
  have e1 : setC (vl d[i]!).cs 0 (vl y).cs = (vl y).cs := by
    simp only [setC, List.take_zero, List.nil_append, Nat.zero_add]
    rw [List.drop_of_length_le (by rw [hE.len, hE.len]; exact Nat.le_refl _), List.append_nil]
  rw [e1, List.set_set, rows_set (id := id)]
  exact hk

theorem osc_VO {id n m : Nat} (hE : VEnc vl sz ag) (d : Array α) (h : OSc n m S0) : OSc n m (S0.set id (VO vl ety sz d)) := h.set (scLL_rows hE n m _)
theorem osc_VO' {id n m : Nat} (hE : VEnc vl sz ag) {d : Array α} (d' : Array α) (h : OSc n m (S0.set id (VO vl ety sz d))) : OSc n m (S0.set id (VO vl ety sz d')) := by
  have := osc_VO (id := id) (ety := ety) hE d' h
  rwa [List.set_set] at this

/-- a call that turns the row -/
theorem ckVO {f : FuncId} {ds : List D} {K : FD → List O → List O → Tks → Tks → Prop} {r : D} {id : Nat} {d d' : Array α} (hid : id < S0.length) (hn : S0.length = n0) (hm : T.length = m0)
    (h : ∀ (S0 : List O) (tk : Tks), id < S0.length → ACalls E f ds (S0.set id (VO vl ety sz d)) tk (fun r' S' tk' => r' = r ∧ S' = S0.set id (VO vl ety sz d') ∧ tk' = tk))
    (hk : fzD r fun r => K (.d r) (S0.set id (VO vl ety sz d')) J T TK) : CK E n0 m0 f ds (S0.set id (VO vl ety sz d)) J T TK K := by
  refine ckG (P := fun r' S' tk' => r' = r ∧ S' = S0.set id (VO vl ety sz d') ++ J ∧ tk' = T ++ TK) ?_ ?_
  · have := h (S0 ++ J) (T ++ TK) (by rw [List.length_append]; omega)
    rwa [set_old hid, set_old hid] at this
  · rintro r' S' tk' ⟨rfl, rfl, rfl⟩
    exact ⟨_, J, T, TK, rfl, rfl, by rw [List.length_set, hn], hm, hk⟩

theorem ckVOS {f : FuncId} {ds ds' : List D} {K : FD → List O → List O → Tks → Tks → Prop} {r : D} {id : Nat} {d d' : Array α} (hid : id < S0.length) (hn : S0.length = n0) (hm : T.length = m0)
    (h : ∀ (S0 : List O) (tk : Tks), id < S0.length → ACalls E f ds' (S0.set id (VO vl ety sz d)) tk (fun r' S' tk' => r' = r ∧ S' = S0.set id (VO vl ety sz d') ∧ tk' = tk)) (hs : SubL ds ds')
    (hk : fzD r fun r => K (.d r) (S0.set id (VO vl ety sz d')) J T TK) : CK E n0 m0 f ds (S0.set id (VO vl ety sz d)) J T TK K :=
  ckVO hid hn hm (fun S0 tk hid => (h S0 tk hid).sub hs) hk

/-- the end, behind changes of the row -/
theorem ffinS {d d' : D} {Post : D → List O → Tks → Prop} (hn : S.length = n0) (hm : T.length = m0) (hS : OSc n0 m0 S) (hs : Sub d d') (hsc : d'.sc n0 m0 = true) (hp : Post d' S T) : FFin E n0 m0 S J T TK d Post := ffin d' hn hm hS hs hsc hp
end

/-- what a call leaves of a row, and answers -/
def RowTo {α : Type} (vl : α → D) (e : TypeId) (sz : Nat) (S0 : List O) (id : Nat) (tk : Tks) (r : D) (d : Array α) : D → List O → Tks → Prop := fun r' S' tk' => r' = r ∧ S' = S0.set id (VO vl e sz d) ∧ tk' = tk

end Go.KL
