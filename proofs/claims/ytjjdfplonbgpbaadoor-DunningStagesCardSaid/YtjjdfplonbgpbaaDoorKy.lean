/- Loops that change older objects and older tokens. -/
import Derived.Test.YtjjdfplonbgpbaaDoorKL37
import Derived.Test.YtjjdfplonbgpbaaDoorKL36
set_option linter.unusedVariables false
set_option linter.unusedSimpArgs false
set_option linter.unusedSectionVars false
namespace Go.KL
open Go Go.RowKit
structure FNextT (E : Env) (n0 m0 : Nat) {α : Type} (P : α → Prop) (μ : α → Nat) (gf : α → Fr) (gS gJ : α → List O) (gO gT : α → Tks) (a : α) (fr : Fr) (S J : List O) (T TK : Tks) : Prop where
  h : ∃ a', P a' ∧ μ a' < μ a ∧ S = gS a' ∧ T = gO a' ∧ FStep E n0 m0 fr J TK (gf a') (gJ a') (gT a')
theorem fnextT {E : Env} {n0 m0 : Nat} {α : Type} {P : α → Prop} {μ : α → Nat} {gf : α → Fr} {gS gJ : α → List O} {gO gT : α → Tks} {a : α} {S : List O} {T : Tks} {fr : Fr} {J : List O} {TK : Tks} (a' : α) (h1 : P a') (h2 : μ a' < μ a) (hS : S = gS a') (hT : T = gO a') (h3 : FStep E n0 m0 fr J TK (gf a') (gJ a') (gT a')) :
    FNextT E n0 m0 P μ gf gS gJ gO gT a fr S J T TK := ⟨a', h1, h2, hS, hT, h3⟩
def FRdT (E : Env) (n0 m0 : Nat) {α : Type} (P : α → Prop) (μ : α → Nat) (gf : α → Fr) (gS gJ : α → List O) (gO gT : α → Tks) (a : α) (Q : X → FK) : X → FK := fun x fr S J T TK => match x with
  | .nm => FNextT E n0 m0 P μ gf gS gJ gO gT a fr S J T TK
  | .ex id => Q (.ex id) fr S J T TK
  | .rt => Q .rt fr S J T TK
theorem floopT {E : Env} {n0 m0 : Nat} {W : Fr → List O → List O → Tks → Tks → (X → FK) → Prop} {fr : Fr} {S J : List O} {T TK : Tks} {Q : X → FK} {α : Type}
    (P : α → Prop) (μ : α → Nat) (gf : α → Fr) (gS gJ : α → List O) (gO gT : α → Tks) (hgS : ∀ a, P a → (gS a).length = n0 ∧ (gO a).length = m0 ∧ OSc n0 m0 (gS a)) (a0 : α) (hP : P a0) (hS0 : S = gS a0) (hT0 : T = gO a0) (h0 : FStep E n0 m0 fr J TK (gf a0) (gJ a0) (gT a0))
    (hb : ∀ a, P a → W (gf a) (gS a) (gJ a) (gO a) (gT a) (FRdT E n0 m0 P μ gf gS gJ gO gT a Q)) : FLoop E n0 m0 W fr S J T TK Q := by
  subst hS0; subst hT0
  refine ⟨fun n fr S' J T' TK => ∃ a, P a ∧ μ a = n ∧ fr = gf a ∧ S' = gS a ∧ J = gJ a ∧ T' = gO a ∧ TK = gT a, μ a0, gf a0, gS a0, gJ a0, gO a0, gT a0, h0.h _ _ (hgS a0 hP).1 (hgS a0 hP).2.1 (hgS a0 hP).2.2, ⟨a0, hP, rfl, rfl, rfl, rfl, rfl, rfl⟩, ?_⟩
  rintro n fr S' J T' TK ⟨a, ha, rfl, rfl, rfl, rfl, rfl, rfl⟩
  refine ⟨⟨(hgS a ha).1, (hgS a ha).2.1⟩, _, hb a ha, fun fr S' J T' TK h => ?_, fun id fr S' J T' TK h => h, fun fr S' J T' TK h => h⟩
  obtain ⟨a', h1, h2, rfl, rfl, h3⟩ := h.h
  exact ⟨μ a', gf a', _, gJ a', _, gT a', h2, h3.h _ _ (hgS a' h1).1 (hgS a' h1).2.1 (hgS a' h1).2.2, a', h1, rfl, rfl, rfl, rfl, rfl, rfl⟩
section
variable {E : Env} {n0 m0 : Nat} {fr : Fr} {S J : List O} {T TK : Tks}
theorem gk_appf {T' e : TypeId} {sz bytes : Nat} {zs : List D} {x y : Opd} {es src : List (List D)} {K : FD → List O → List O → Tks → Tks → Prop} (hn : S.length = n0) (hm : T.length = m0) (hx : fev E fr x = .d (.full es)) (hne : es ≠ []) (hy : srcD (S ++ J) sz ((fev E fr y).to n0) = some src) (h0 : src ≠ [])
    (hes : ∀ s ∈ es, s.length = sz) (hs : ∀ s ∈ src, s.length = sz) (hl : es.length + src.length ≤ maxLen ∧ (es.length + src.length) * bytes ≤ 140737488355328)
    (hk : K (.d (.vec (n0 + J.length) (es ++ src).length sz)) S (J ++ [.vec (es ++ src) e sz]) T TK) : GK E n0 m0 (.app T' e sz bytes zs x y) fr S J T TK K := by
  refine ⟨?_⟩
  simp only [aop]
  rw [← fev_to y, hy]
  simp only
  rw [← fev_to x, hx]
  cases es with
  | nil => exact absurd rfl hne
  | cons a b => exact ⟨⟨h0, hes, hs, hl.1, hl.2⟩, S, J ++ [_], T, TK, by rw [List.append_assoc], rfl, hn, hm, (fzD_eq _ _).2 (by rw [List.length_append, hn]; exact hk)⟩
theorem u8L_of : ∀ ns : List Int, u8L (ns.map fun n => [.int .u8 n]) = some ns
  | [] => rfl
  | n :: ns => by simp [u8L, u8L_of ns]
theorem b2s_own {x : Opd} {k n : Nat} {e : TypeId} {ns : List Int} (hn : S.length = n0) (hx : ev E (frD n0 fr) x = .vec (n0 + k) n 1) (hJ : J[k]? = some (.vec (ns.map fun n => [.int .u8 n]) e 1)) (hl : ns.length = n) :
    pv E (frD n0 fr) (S ++ J) (.b2s x) = some (.str (bytesOf ns)) := by
  simp only [pv, hx, srcD, at_own hn hJ]
  simp [hl, u8L_of]
theorem b2s_full {x : Opd} {ns : List Int} (hx : ev E (frD n0 fr) x = .full (ns.map fun n => [.int .u8 n])) : pv E (frD n0 fr) (S ++ J) (.b2s x) = some (.str (bytesOf ns)) := by
  simp only [pv, hx, srcD, D.rd]
  simp [u8L_of]
end
section
variable {E : Env} {n0 m0 : Nat} {fr : Fr} {S J : List O} {T TK : Tks}
theorem ckNE {f : FuncId} {ds ds' : List D} {K : FD → List O → List O → Tks → Tks → Prop} {G : D → O → Prop} {Jn : O → List O} (hn : S.length = n0) (hm : T.length = m0)
    (h : ACalls E f ds' (S ++ J) (T ++ TK) (fun r S' tk' => ∃ o', G r o' ∧ S' = (S ++ J) ++ Jn o' ∧ tk' = T ++ TK)) (hs : SubL ds ds')
    (hk : ∀ r o', G r o' → fzD r fun r => K (.d r) S (J ++ Jn o') T TK) : CK E n0 m0 f ds S J T TK K := by
  refine ckG (h.sub hs) ?_
  rintro r' S' tk' ⟨o', hG, rfl, rfl⟩
  exact ⟨S, J ++ Jn o', T, TK, List.append_assoc .., rfl, hn, hm, hk _ _ hG⟩
end
end Go.KL
namespace Go.KL.MG
open Go Go.KL Go.RowKit
section
variable {κ : Type} [DecidableEq κ] {kd : κ → D}
abbrev Ent (κ : Type) := κ × D × Nat
def entKv (kd : κ → D) (l : List (Ent κ)) : Kv := l.map fun e => (kd e.1, e.2.1, e.2.2)
structure Stamps (l : List (Ent κ)) (clk : Nat) : Prop where
  nodup : (l.map (·.2.2)).Nodup
  lt : ∀ e ∈ l, e.2.2 < clk
theorem Stamps.eq {l : List (Ent κ)} {clk : Nat} (h : Stamps l clk) {a b : Ent κ} (ha : a ∈ l) (hb : b ∈ l) (he : a.2.2 = b.2.2) : a = b := by
  obtain ⟨i, hi, rfl⟩ := List.mem_iff_getElem.1 ha
  obtain ⟨j, hj, rfl⟩ := List.mem_iff_getElem.1 hb
  have h1 := (List.getElem?_inj (i := i) (j := j) (l := l.map (·.2.2)) (by simpa using hi) h.nodup).1 (by simp [List.getElem?_eq_getElem hi, List.getElem?_eq_getElem hj, he])
  subst h1; rfl
theorem nd_of_map {α β : Type} {f : α → β} {l : List α} (h : (l.map f).Nodup) : l.Nodup := by
  rw [List.Nodup, List.pairwise_map] at h
  exact h.imp fun hne he => hne (by rw [he])
theorem Stamps.nd {l : List (Ent κ)} {clk : Nat} (h : Stamps l clk) : l.Nodup := nd_of_map h.nodup
theorem Stamps.kveq {l : List (Ent κ)} {clk : Nat} (h : Stamps l clk) {e : Ent κ} (he : e ∈ l) : ∀ q ∈ entKv kd l, q.2.2 = e.2.2 → q = (kd e.1, e.2.1, e.2.2) := by
  intro q hq hs
  obtain ⟨a, ha, rfl⟩ := List.mem_map.1 hq
  rw [h.eq ha he hs]
theorem Stamps.full {l vs : List (Ent κ)} {clk : Nat} (h : Stamps l clk) (hnd : vs.Nodup) (hs : ∀ e ∈ vs, e ∈ l) (hall : ∀ p ∈ entKv kd l, p.2.2 < clk → p.2.2 ∈ vs.map (·.2.2)) : vs.Perm l := by
  refine (List.perm_ext_iff_of_nodup hnd h.nd).2 fun e => ⟨hs e, fun he => ?_⟩
  obtain ⟨a, ha, hae⟩ := List.mem_map.1 (hall _ (List.mem_map_of_mem he) (h.lt e he))
  rw [h.eq he (hs a ha) hae.symm]; exact ha
theorem Stamps.more {l vs : List (Ent κ)} {clk : Nat} (h : Stamps l clk) (hnd : vs.Nodup) (hs : ∀ e ∈ vs, e ∈ l) {e : Ent κ} (he : e ∈ l) (hn : e.2.2 ∉ vs.map (·.2.2)) :
    (vs ++ [e]).Nodup ∧ (∀ x ∈ vs ++ [e], x ∈ l) ∧ vs.length < l.length := by
  have h1 : (vs ++ [e]).Nodup := by
    refine List.nodup_append.2 ⟨hnd, by simp, fun a ha b hb hab => hn ?_⟩
    rw [List.mem_singleton.1 hb] at hab
    exact hab ▸ List.mem_map_of_mem ha
  have h2 : ∀ x ∈ vs ++ [e], x ∈ l := fun x hx => by
    rcases List.mem_append.1 hx with hx | hx
    · exact hs x hx
    · rw [List.mem_singleton.1 hx]; exact he
  classical
  have := List.Nodup.length_le_of_subset h1 h2
  rw [List.length_append, List.length_singleton] at this
  exact ⟨h1, h2, by omega⟩
theorem entKv_first {l : List (Ent κ)} {clk : Nat} (h : Stamps l clk) : entKv kd l = [] ∨ ∃ p ∈ entKv kd l, p.2.2 < clk := by
  cases l with
  | nil => exact .inl rfl
  | cons e l => exact .inr ⟨_, List.mem_map_of_mem (List.mem_cons_self ..), h.lt e (List.mem_cons_self ..)⟩

abbrev KEq (kd : κ → D) : Prop := ∀ a b, keyB (kd a) (kd b) = decide (a = b)
def getE (l : List (Ent κ)) (k : κ) : Option D := match l with
  | [] => none
  | e :: r => if k = e.1 then some e.2.1 else getE r k
def replE (l : List (Ent κ)) (k : κ) (v : D) : List (Ent κ) := match l with
  | [] => []
  | e :: r => if k = e.1 then (e.1, v, e.2.2) :: r else e :: replE r k v
def delE (l : List (Ent κ)) (k : κ) : List (Ent κ) := match l with
  | [] => []
  | e :: r => if k = e.1 then r else e :: delE r k
theorem mfind_entKv (hk : KEq kd) : ∀ (l : List (Ent κ)) (k : κ), (mfind (entKv kd l) (kd k)).map (·.2.1) = getE l k
  | [], k => rfl
  | e :: r, k => by
    have ih := mfind_entKv hk r k
    simp only [mfind, entKv, List.map_cons, List.find?_cons, hk, getE] at ih ⊢
    by_cases h : k = e.1
    · simp [h]
    · rw [decide_eq_false h, if_neg h]; exact ih
theorem mget_entKv (hk : KEq kd) (z : D) (l : List (Ent κ)) (k : κ) : mget z (entKv kd l) (kd k) = (getE l k).getD z := by
  rw [← mfind_entKv hk, mget]
  cases mfind (entKv kd l) (kd k) <;> rfl
theorem mfind_some (hk : KEq kd) (l : List (Ent κ)) (k : κ) : (mfind (entKv kd l) (kd k)).isSome = (getE l k).isSome := by
  rw [← mfind_entKv hk]
  cases mfind (entKv kd l) (kd k) <;> rfl
theorem mrepl_entKv (hk : KEq kd) : ∀ (l : List (Ent κ)) (k : κ) (v : D), mrepl (entKv kd l) (kd k) v = entKv kd (replE l k v)
  | [], k, v => rfl
  | e :: r, k, v => by
    have ih := mrepl_entKv hk r k v
    simp only [entKv, List.map_cons, mrepl, hk, replE] at ih ⊢
    by_cases h : k = e.1
    · simp [h]
    · simp [h, ih]
theorem mdel_entKv (hk : KEq kd) : ∀ (l : List (Ent κ)) (k : κ), mdel (entKv kd l) (kd k) = entKv kd (delE l k)
  | [], k => rfl
  | e :: r, k => by
    have ih := mdel_entKv hk r k
    simp only [mdel, entKv, List.map_cons, List.eraseP_cons, hk, delE] at ih ⊢
    by_cases h : k = e.1
    · simp [h]
    · simp [h, ih]
theorem getE_mem : ∀ (l : List (Ent κ)) (k : κ), (getE l k).isSome = true ↔ k ∈ l.map (·.1)
  | [], k => by simp [getE]
  | e :: r, k => by
    simp only [getE, List.map_cons, List.mem_cons]
    by_cases h : k = e.1
    · simp [h]
    · simp [h, getE_mem r k]
theorem getE_repl : ∀ (l : List (Ent κ)) (k : κ) (v : D), (getE l k).isSome = true → ∀ j, getE (replE l k v) j = if j = k then some v else getE l j
  | [], k, v, h, j => by simp [getE] at h
  | e :: r, k, v, h, j => by
    simp only [getE, replE] at h ⊢
    by_cases hk : k = e.1
    · simp only [hk, if_true, getE]
      by_cases hj : j = e.1 <;> simp [hj]
    · rw [if_neg hk] at h
      simp only [if_neg hk, getE]
      rw [getE_repl r k v h j]
      by_cases hj : j = e.1
      · rw [if_pos hj, if_neg (by first | omega | (intro hh; simp_all)), if_pos hj]
      · rw [if_neg hj, if_neg hj]
theorem repl_fst : ∀ (l : List (Ent κ)) (k : κ) (v : D), (replE l k v).map (·.1) = l.map (·.1)
  | [], k, v => rfl
  | e :: r, k, v => by simp only [replE]; split <;> simp [repl_fst r k v]
theorem repl_st : ∀ (l : List (Ent κ)) (k : κ) (v : D), (replE l k v).map (·.2.2) = l.map (·.2.2)
  | [], k, v => rfl
  | e :: r, k, v => by simp only [replE]; split <;> simp [repl_st r k v]
theorem getE_app (l : List (Ent κ)) (k : κ) (v : D) (n : Nat) (h : getE l k = none) : ∀ j, getE (l ++ [(k, v, n)]) j = if j = k then some v else getE l j := by
  induction l with
  | nil => intro j; simp [getE]
  | cons e r ih =>
    intro j
    simp only [getE] at h
    split at h
    · cases h
    rename_i hk
    simp only [List.cons_append, getE]
    rw [ih h j]
    by_cases hj : j = e.1
    · rw [if_pos hj, if_neg (by first | omega | (intro hh; simp_all)), if_pos hj]
    · rw [if_neg hj, if_neg hj]
theorem del_sub : ∀ (l : List (Ent κ)) (k : κ), (delE l k).Sublist l
  | [], k => List.Sublist.refl _
  | e :: r, k => by
    simp only [delE]; split
    · exact List.sublist_cons_self ..
    · exact (del_sub r k).cons_cons _
theorem getE_del : ∀ (l : List (Ent κ)) (k : κ), (l.map (·.1)).Nodup → ∀ j, getE (delE l k) j = if j = k then none else getE l j
  | [], k, _, j => by simp [getE, delE]
  | e :: r, k, hn, j => by
    simp only [List.map_cons, List.nodup_cons] at hn
    simp only [delE, getE]
    by_cases hk : k = e.1
    · rw [if_pos hk]
      by_cases hj : j = k
      · rw [if_pos hj]
        cases h : getE r j with
        | none => rfl
        | some v => exact absurd ((getE_mem r j).1 (by rw [h]; rfl)) (by rw [hj, hk]; exact hn.1)
      · rw [if_neg hj, if_neg (by first | omega | (intro hh; simp_all))]
    · rw [if_neg hk, getE, getE_del r k hn.2 j]
      by_cases hj : j = e.1
      · rw [if_pos hj, if_neg (by first | omega | (intro hh; simp_all)), if_pos hj]
      · rw [if_neg hj, if_neg hj]

structure MapR {β : Type} (vl : β → D) (l : List (Ent κ)) (clk : Nat) (f : κ → Option β) : Prop where
  st : Stamps l clk
  nd : (l.map (·.1)).Nodup
  get : ∀ k, getE l k = (f k).map vl
def setE (l : List (Ent κ)) (clk : Nat) (k : κ) (v : D) : List (Ent κ) := if (getE l k).isSome = true then replE l k v else l ++ [(k, v, clk)]
def clkE (l : List (Ent κ)) (clk : Nat) (k : κ) : Nat := if (getE l k).isSome = true then clk else clk + 1
theorem mset_entKv (hk : KEq kd) (l : List (Ent κ)) (clk : Nat) (k : κ) (v : D) : mset (entKv kd l) clk (kd k) v = entKv kd (setE l clk k v) := by
  have h := mfind_some hk l k
  unfold mset setE
  cases hm : mfind (entKv kd l) (kd k) with
  | some p => rw [hm] at h; rw [if_pos (by rw [← h]; rfl)]; exact mrepl_entKv hk l k v
  | none => rw [hm] at h; rw [if_neg (by rw [← h]; simp)]; simp [entKv]
theorem mclk_entKv (hk : KEq kd) (l : List (Ent κ)) (clk : Nat) (k : κ) : mclk (entKv kd l) clk (kd k) = clkE l clk k := by
  have h := mfind_some hk l k
  unfold mclk clkE
  cases hm : mfind (entKv kd l) (kd k) with
  | some p => rw [hm] at h; rw [if_pos (by rw [← h]; rfl)]
  | none => rw [hm] at h; rw [if_neg (by rw [← h]; simp)]
section
variable {β : Type} {vl : β → D} {l : List (Ent κ)} {clk : Nat} {f : κ → Option β}
theorem MapR.empty (vl : β → D) : MapR vl ([] : List (Ent κ)) 0 fun _ => none := ⟨⟨List.nodup_nil, by simp⟩, List.nodup_nil, fun _ => rfl⟩
theorem MapR.mem (h : MapR vl l clk f) (k : κ) : k ∈ l.map (·.1) ↔ (f k).isSome = true := by
  rw [← getE_mem, h.get]; cases f k <;> simp
theorem MapR.set (h : MapR vl l clk f) (k : κ) (v : β) : MapR vl (setE l clk k (vl v)) (clkE l clk k) fun j => if j = k then some v else f j := by
  unfold setE clkE
  by_cases hk : (getE l k).isSome = true
  · rw [if_pos hk, if_pos hk]
    refine ⟨⟨by rw [repl_st]; exact h.st.nodup, fun e he => ?_⟩, by rw [repl_fst]; exact h.nd, fun j => ?_⟩
    · have : e.2.2 ∈ (replE l k (vl v)).map (·.2.2) := List.mem_map_of_mem he
      rw [repl_st] at this
      obtain ⟨a, ha, hae⟩ := List.mem_map.1 this
      rw [← hae]; exact h.st.lt a ha
    · rw [getE_repl l k (vl v) hk j, h.get]; split <;> rfl
  · rw [if_neg hk, if_neg hk]
    have hn : getE l k = none := by cases hg : getE l k with
      | none => rfl
      | some v => rw [hg] at hk; simp at hk
    refine ⟨⟨?_, fun e he => ?_⟩, ?_, fun j => ?_⟩
    · rw [List.map_append, List.nodup_append]
      refine ⟨h.st.nodup, by simp, fun a ha b hb hab => ?_⟩
      obtain ⟨x, hx, rfl⟩ := List.mem_map.1 ha
      simp at hb
      have := h.st.lt x hx
      omega
    · rcases List.mem_append.1 he with he | he
      · have := h.st.lt e he; omega
      · rw [List.mem_singleton.1 he]; exact Nat.lt_succ_self _
    · rw [List.map_append, List.nodup_append]
      refine ⟨h.nd, by simp, fun a ha b hb hab => ?_⟩
      simp at hb
      have := (getE_mem l a).2 ha
      rw [hab, hb] at this
      exact hk this
    · rw [getE_app l k (vl v) clk hn j, h.get]; split <;> rfl
theorem MapR.del (h : MapR vl l clk f) (k : κ) : MapR vl (delE l k) clk fun j => if j = k then none else f j := by
  refine ⟨⟨h.st.nodup.sublist ((del_sub l k).map _), fun e he => h.st.lt e ((del_sub l k).subset he)⟩, h.nd.sublist ((del_sub l k).map _), fun j => ?_⟩
  rw [getE_del l k h.nd j, h.get]; split <;> rfl
theorem setE_len (l : List (Ent κ)) (clk : Nat) (k : κ) (v : D) : (setE l clk k v).length ≤ l.length + 1 := by
  unfold setE; split
  · have := congrArg List.length (repl_fst l k v)
    simp at this; omega
  · simp
theorem delE_len (l : List (Ent κ)) (k : κ) : (delE l k).length ≤ l.length := (del_sub l k).length_le
end
end
end Go.KL.MG
namespace Go.KL
open Go Go.RowKit
section
variable {E : Env} {n0 m0 : Nat} {fr : Fr} {S J : List O} {T TK : Tks}
theorem gk_app_oldt {T' e : TypeId} {sz bytes : Nat} {zs : List D} {x y : Opd} {es src : List (List D)} {t : Nat} {K : FD → List O → List O → Tks → Tks → Prop} (hn : S.length = n0) (hm : T.length = m0) (hx : fev E fr x = .d (.gsl es t)) (hy : ((fev E fr y).to n0).rd = some src) (ht : T[t]? = some (es.length, e, sz)) (hs : ∀ s ∈ src, s.length = sz)
    (hl : es.length + src.length ≤ maxLen ∧ (es.length + src.length) * bytes ≤ 140737488355328) (hk : K (.d (.gsl (es ++ src) t)) S J (T.set t ((es ++ src).length, e, sz)) TK) : GK E n0 m0 (.app T' e sz bytes zs x y) fr S J T TK K := by
  refine ⟨?_⟩
  simp only [aop]
  rw [← fev_to y, srcD_rd hy]
  simp only
  rw [← fev_to x, hx]
  have hlt : t < T.length := (List.getElem?_eq_some_iff.1 ht).1
  exact ⟨⟨by rw [List.getElem?_append_left hlt]; exact ht, hs, hl.1, hl.2⟩, S, J, T.set t _, TK, rfl, List.set_append_left _ _ hlt, hn, by rw [List.length_set, hm], (fzD_eq _ _).2 hk⟩
theorem ykG {id : Nat} {ds : List D} {K : FD → List O → List O → Tks → Tks → Prop} {P : D → List O → Tks → Prop} (h : AYields E id ds (S ++ J) (T ++ TK) P) (hk : ∀ r S' tk', P r S' tk' → kAll n0 m0 K r S' tk') : YK E n0 m0 id ds S J T TK K := ⟨h.mono hk⟩
theorem ffinK {d d' : D} {S1 J1 : List O} {T1 TX : Tks} {Post : D → List O → Tks → Prop} (hSJ : S ++ J = S1 ++ J1) (hTT : T ++ TK = T1 ++ TX) (h0 : n0 ≤ S1.length) (h1 : m0 ≤ T1.length) (hs : Sub d d') (hsc : d'.sc S1.length T1.length = true) (hS : OSc S1.length T1.length S1) (hp : Post d' S1 T1) :
    FFin E n0 m0 S J T TK d Post := by
  refine ⟨d', S1, T1, ?_, hp⟩
  rw [hSJ, hTT]
  exact Shift.drop (by exact ⟨by simpa [KL.get] using hs, trivial⟩) h0 h1 (by simp [frSc, hsc]) hS
theorem gk_ment_old {kt : KT} {z : D} {x k : Opd} {id clk : Nat} {kv : Kv} {K : FD → List O → List O → Tks → Tks → Prop} (hn : S.length = n0) (hm : T.length = m0) (hx : fev E fr x = .d (.map id)) (hS : S[id]? = some (.map kt kv clk)) (hkk : kOK kt ((fev E fr k).to n0) = true)
    (hk : fzD (.tup [mget z kv ((fev E fr k).to n0), .int .i64 (mborn kv clk ((fev E fr k).to n0))]) fun d => K (.d d) (S.set id (.map kt (ment kv clk ((fev E fr k).to n0) z) (mclk kv clk ((fev E fr k).to n0)))) J T TK) : GK E n0 m0 (.ment kt z x k) fr S J T TK K := by
  refine ⟨?_⟩
  simp only [aop, ← fev_to (n := n0) x, hx, FD.to, at_old hS]
  rw [fev_to] at hkk hk
  exact ⟨⟨trivial, hkk⟩, S.set id _, J, T, TK, set_old (lt_of_at hS), rfl, by rw [List.length_set, hn], hm, hk⟩
theorem gk_mest_old {x s v : Opd} {id clk : Nat} {kt : KT} {kv : Kv} {n : Int} {K : FD → List O → List O → Tks → Tks → Prop} (hn : S.length = n0) (hm : T.length = m0) (hx : fev E fr x = .d (.map id)) (hs : fev E fr s = .d (.int .i64 n)) (hS : S[id]? = some (.map kt kv clk)) (h0 : 0 ≤ n ∧ ∃ p ∈ kv, p.2.2 = n.toNat)
    (hk : K (.d .top) (S.set id (.map kt (mstamp kv n.toNat ((fev E fr v).to n0)) clk)) J T TK) : GK E n0 m0 (.mest x s v) fr S J T TK K := by
  refine ⟨?_⟩
  simp only [aop, ← fev_to (n := n0) x, ← fev_to (n := n0) s, hx, hs, FD.to, at_old hS]
  rw [fev_to] at hk
  exact ⟨h0, S.set id _, J, T, TK, set_old (lt_of_at hS), rfl, by rw [List.length_set, hn], hm, hk⟩

theorem gk_ment_oldE {kt : KT} {z dv : D} {x k : Opd} {id clk clk' n : Nat} {kv kv' : Kv} {kd : D} {K : FD → List O → List O → Tks → Tks → Prop} (hn : S.length = n0) (hm : T.length = m0) (hx : fev E fr x = .d (.map id)) (hS : S[id]? = some (.map kt kv clk)) (hkd : (fev E fr k).to n0 = kd) (hkk : kOK kt kd = true)
    (h1 : mget z kv kd = dv) (h2 : mborn kv clk kd = n) (h3 : ment kv clk kd z = kv') (h4 : mclk kv clk kd = clk') (hk : fzD (.tup [dv, .int .i64 n]) fun d => K (.d d) (S.set id (.map kt kv' clk')) J T TK) : GK E n0 m0 (.ment kt z x k) fr S J T TK K := by
  subst hkd; subst h1; subst h2; subst h3; subst h4
  exact gk_ment_old hn hm hx hS hkk hk
theorem gk_mest_oldE {x s v : Opd} {id clk : Nat} {kt : KT} {kv kv' : Kv} {n : Nat} {vd : D} {K : FD → List O → List O → Tks → Tks → Prop} (hn : S.length = n0) (hm : T.length = m0) (hx : fev E fr x = .d (.map id)) (hs : fev E fr s = .d (.int .i64 n)) (hS : S[id]? = some (.map kt kv clk)) (h0 : ∃ p ∈ kv, p.2.2 = n)
    (hvd : (fev E fr v).to n0 = vd) (h1 : mstamp kv n vd = kv') (hk : K (.d .top) (S.set id (.map kt kv' clk)) J T TK) : GK E n0 m0 (.mest x s v) fr S J T TK K := by
  subst hvd; subst h1
  refine gk_mest_old hn hm hx hs hS ⟨by omega, by simpa using h0⟩ ?_
  simpa using hk

structure FStp (E : Env) (n0 m0 : Nat) (fr : Fr) (S J : List O) (T TK : Tks) (fr' : Fr) (S' J' : List O) (T' TK' : Tks) : Prop where
  h : Shift E n0 m0 (sT n0 fr S J T TK) (sT n0 fr' S' J' T' TK')
theorem fstp_sub {fr' : Fr} {S' J' : List O} {T' TK' : Tks} (hS : S ++ J = S' ++ J') (hT : T ++ TK = T' ++ TK') (h : FrSub n0 fr fr') : FStp E n0 m0 fr S J T TK fr' S' J' T' TK' := by
  refine ⟨?_⟩
  unfold sT
  rw [hS, hT]
  exact Shift.frame h.le
theorem fstp_drop {fr' : Fr} {J' Jx : List O} {T' TK' : Tks} (hJ : J = J' ++ Jx) (hT : T ++ TK = T' ++ TK') (h : FrSub n0 fr fr') (hn : n0 ≤ (S ++ J').length) (hm : m0 ≤ (T' ++ TK').length) (hsc : frSc (S ++ J').length (T' ++ TK').length (frD n0 fr') = true) (hS : OSc (S ++ J').length (T' ++ TK').length (S ++ J')) :
    FStp E n0 m0 fr S J T TK fr' S J' T' TK' := by
  refine ⟨?_⟩
  subst hJ
  unfold sT
  rw [hT]
  have := Shift.drop (E := E) (n0 := n0) (m0 := m0) (fr := frD n0 fr) (fr' := frD n0 fr') (S := S ++ J') (J := Jx) (tk := T' ++ TK') (J' := []) h.le hn hm hsc hS
  rw [List.append_nil, List.append_assoc] at this
  exact this
structure FNextW (E : Env) (n0 m0 : Nat) {α : Type} (P : α → Prop) (μ : α → Nat) (gf : α → Fr) (gS gJ : α → List O) (gT gK : α → Tks) (a : α) (fr : Fr) (S J : List O) (T TK : Tks) : Prop where
  h : ∃ a', P a' ∧ μ a' < μ a ∧ FStp E n0 m0 fr S J T TK (gf a') (gS a') (gJ a') (gT a') (gK a')
theorem fnextW {α : Type} {P : α → Prop} {μ : α → Nat} {gf : α → Fr} {gS gJ : α → List O} {gT gK : α → Tks} {a : α} (a' : α) (h1 : P a') (h2 : μ a' < μ a) (h3 : FStp E n0 m0 fr S J T TK (gf a') (gS a') (gJ a') (gT a') (gK a')) :
    FNextW E n0 m0 P μ gf gS gJ gT gK a fr S J T TK := ⟨a', h1, h2, h3⟩
def FRdW (E : Env) (n0 m0 : Nat) {α : Type} (P : α → Prop) (μ : α → Nat) (gf : α → Fr) (gS gJ : α → List O) (gT gK : α → Tks) (a : α) (Q : X → FK) : X → FK := fun x fr S J T TK => match x with
  | .nm => FNextW E n0 m0 P μ gf gS gJ gT gK a fr S J T TK
  | .ex id => Q (.ex id) fr S J T TK
  | .rt => Q .rt fr S J T TK
theorem floopW {W : Fr → List O → List O → Tks → Tks → (X → FK) → Prop} {Q : X → FK} {α : Type} (P : α → Prop) (μ : α → Nat) (gf : α → Fr) (gS gJ : α → List O) (gT gK : α → Tks) (hl : ∀ a, P a → (gS a).length = n0 ∧ (gT a).length = m0) (a0 : α) (hP : P a0)
    (h0 : FStp E n0 m0 fr S J T TK (gf a0) (gS a0) (gJ a0) (gT a0) (gK a0)) (hb : ∀ a, P a → W (gf a) (gS a) (gJ a) (gT a) (gK a) (FRdW E n0 m0 P μ gf gS gJ gT gK a Q)) : FLoop E n0 m0 W fr S J T TK Q := by
  refine ⟨fun n fr S' J T' TK => ∃ a, P a ∧ μ a = n ∧ fr = gf a ∧ S' = gS a ∧ J = gJ a ∧ T' = gT a ∧ TK = gK a, μ a0, gf a0, gS a0, gJ a0, gT a0, gK a0, h0.h, ⟨a0, hP, rfl, rfl, rfl, rfl, rfl, rfl⟩, ?_⟩
  rintro n fr S' J T' TK ⟨a, ha, rfl, rfl, rfl, rfl, rfl, rfl⟩
  refine ⟨hl a ha, _, hb a ha, fun fr S' J T' TK h => ?_, fun id fr S' J T' TK h => h, fun fr S' J T' TK h => h⟩
  obtain ⟨a', h1, h2, h3⟩ := h.h
  exact ⟨μ a', gf a', gS a', gJ a', gT a', gK a', h2, h3.h, a', h1, rfl, rfl, rfl, rfl, rfl, rfl⟩
theorem fyieldJ {id : Nat} {L : LI} {ps : List Nat} {asg bod : AC} (hR : RoundOf E L ps asg bod) (hn1 : noRfn asg = true) (hn2 : noRfn bod = true) (hc1 : noCut asg = true) (hc2 : noCut bod = true) {ds : List D} {S : List O} {tk : Tks} {fr : List (Nat × D)} {Post : D → List O → Tks → Prop}
    (hS : S[id]? = some (.lp L fr .ready none)) (hl : ps.length = ds.length)
    (h : OSc S.length tk.length S → fWp E S.length tk.length asg (ffD (frP ps ds fr)) S [] tk [] fun x fr1 S1 J1 T1 TK1 => match x with
      | .nm => S1 = S ∧ T1 = tk ∧ fWp E S.length tk.length bod fr1 (S.set id (.lp L fr .busy none)) J1 tk TK1 (FRnd E S.length tk.length id L fr Post)
      | _ => False) : AYields E id ds S tk Post := by
  refine AYields.intro hR hn1 hn2 hS hl fun hO => ?_
  have h1 := fWp_sound asg rfl rfl (h hO)
  rw [erase_id asg hc1] at h1
  simp only [sT, ffD_frD, List.append_nil] at h1
  refine AWp.mono asg ?_ h1
  rintro x st ⟨fr1, S1, J1, T1, TK1, rfl, k1, k2, k3⟩
  cases x with
  | ex i => exact k3.elim
  | rt => exact k3.elim
  | nm =>
    obtain ⟨rfl, rfl, k4⟩ := k3
    refine ⟨rfl, at_old hS, ?_⟩
    have h2 := fWp_sound bod (by rw [List.length_set]) rfl k4
    rw [erase_id bod hc2] at h2
    simp only [sT] at h2 ⊢
    rw [set_old (lt_of_at hS)]
    refine AWp.mono bod ?_ h2
    rintro x st ⟨fr2, S2, J2, T2, TK2, rfl, g1, g2, g3⟩
    cases x with
    | ex i => exact g3.elim
    | rt => exact g3.elim
    | nm => exact g3.h
end
section
variable {E : Env} {n0 m0 : Nat} {fr : Fr} {S J : List O} {T TK : Tks}
structure FRndD (E : Env) (n0 m0 : Nat) (id : Nat) (L : LI) (fr : List (Nat × D)) (jump : Code) (Post : D → List O → Tks → Prop) (S J : List O) (T TK : Tks) : Prop where
  h : (S ++ J)[id]? = some (.lp L fr .busy none) ∧ ∃ S' tk', Shift E n0 m0 ⟨[], (S ++ J).set id (.lp L fr .done (some jump)), T ++ TK⟩ ⟨[], S', tk'⟩ ∧ Post (.bool false) S' tk'
def FRndA (E : Env) (n0 m0 : Nat) (id : Nat) (L : LI) (fr : List (Nat × D)) (Post : D → List O → Tks → Prop) : X → FK := fun x _ S J T TK => match x with
  | .nm => FRndN E n0 m0 id L fr Post S J T TK
  | .rt => FRndD E n0 m0 id L fr .ret Post S J T TK
  | .ex i => FRndD E n0 m0 id L fr (.exit i) Post S J T TK
theorem fyieldA {id : Nat} {L : LI} {ps : List Nat} {asg bod : AC} (hR : RoundOf E L ps asg bod) (hn1 : noRfn asg = true) (hn2 : noRfn bod = true) (hc1 : noCut asg = true) (hc2 : noCut bod = true) {ds : List D} {S : List O} {tk : Tks} {fr : List (Nat × D)} {Post : D → List O → Tks → Prop}
    (hS : S[id]? = some (.lp L fr .ready none)) (hl : ps.length = ds.length)
    (h : OSc S.length tk.length S → fWp E S.length tk.length asg (ffD (frP ps ds fr)) S [] tk [] fun x fr1 S1 J1 T1 TK1 => match x with
      | .nm => S1 = S ∧ T1 = tk ∧ fWp E S.length tk.length bod fr1 (S.set id (.lp L fr .busy none)) J1 tk TK1 (FRndA E S.length tk.length id L fr Post)
      | _ => False) : AYields E id ds S tk Post := by
  refine AYields.intro hR hn1 hn2 hS hl fun hO => ?_
  have h1 := fWp_sound asg rfl rfl (h hO)
  rw [erase_id asg hc1] at h1
  simp only [sT, ffD_frD, List.append_nil] at h1
  refine AWp.mono asg ?_ h1
  rintro x st ⟨fr1, S1, J1, T1, TK1, rfl, k1, k2, k3⟩
  cases x with
  | ex i => exact k3.elim
  | rt => exact k3.elim
  | nm =>
    obtain ⟨rfl, rfl, k4⟩ := k3
    refine ⟨rfl, at_old hS, ?_⟩
    have h2 := fWp_sound bod (by rw [List.length_set]) rfl k4
    rw [erase_id bod hc2] at h2
    simp only [sT] at h2 ⊢
    rw [set_old (lt_of_at hS)]
    refine AWp.mono bod ?_ h2
    rintro x st ⟨fr2, S2, J2, T2, TK2, rfl, g1, g2, g3⟩
    cases x with
    | ex i => exact g3.h
    | rt => exact g3.h
    | nm => exact g3.h
def FPend (fr : Fr) (Q : X → FK) (n0 : Nat) (Lp : LI) (S1 J1 Jx : List O) (T1 TK1 : Tks) : Option Code → Prop
  | none => Q .nm fr S1 (J1 ++ .lp Lp (frD n0 fr) .exhausted none :: Jx) T1 TK1
  | some .ret => Q .rt fr S1 (J1 ++ .lp Lp (frD n0 fr) .exhausted (some .ret) :: Jx) T1 TK1
  | some (.exit i) => Q (.ex i) fr S1 (J1 ++ .lp Lp (frD n0 fr) .exhausted (some (.exit i)) :: Jx) T1 TK1
  | _ => False
theorem frfA {f : Opd} {ps : List Nat} {asg bod : AC} {L : Array Nat × Code × Code} {Q : X → FK} {g : FuncId} {caps : List D} (hn : S.length = n0) (hm : T.length = m0) (hf : fev E fr f = .d (.fn g caps)) (hok : callOK E.P g = true)
    (h : ∀ Lp, RoundOf E Lp ps asg bod → ACalls E g (.yld (n0 + J.length) :: caps) (S ++ (J ++ [.lp Lp (frD n0 fr) .ready none])) (T ++ TK) (fun r S' tk' =>
      ∃ S1 J1 Jx T1 TK1 stt pend, S' = S1 ++ (J1 ++ .lp Lp (frD n0 fr) stt pend :: Jx) ∧ stt ≠ .busy ∧ S1.length = n0 ∧ J1.length = J.length ∧ tk' = T1 ++ TK1 ∧ T1.length = m0 ∧ FPend fr Q n0 Lp S1 J1 Jx T1 TK1 pend)) :
    FRf E n0 m0 f ps asg bod L fr S J T TK Q := by
  refine ⟨?_⟩
  have he : ev E (frD n0 fr) f = .fn g caps := by rw [← fev_to, hf]; rfl
  simp only [AWp, sT, he]
  refine ⟨hok, fun Lp hR => ?_⟩
  have hl : (S ++ J).length = n0 + J.length := by rw [List.length_append, hn]
  rw [hl, List.append_assoc]
  refine (h Lp hR).mono ?_
  rintro r S' tk' ⟨S1, J1, Jx, T1, TK1, stt, pend, rfl, h1, h2, h3, rfl, h4, h5⟩
  have hset : ∀ o : O, (S1 ++ (J1 ++ .lp Lp (frD n0 fr) stt pend :: Jx)).set (n0 + J.length) o = S1 ++ (J1 ++ o :: Jx) := fun o => by
    rw [← List.append_assoc, List.set_append_right _ _ (by simp [h2, h3])]
    simp [h2, h3]
  refine ⟨stt, pend, ?_, h1, ?_⟩
  · rw [hl, ← List.append_assoc, List.getElem?_append_right (by simp [h2, h3])]; simp [h2, h3]
  · cases pend with
    | none =>
      exact ⟨fr, S1, J1 ++ .lp Lp (frD n0 fr) .exhausted none :: Jx, T1, TK1, by simp only [sT, hl, hset], h2, h4, h5⟩
    | some c =>
      cases c with
      | ret => exact ⟨fr, S1, J1 ++ .lp Lp (frD n0 fr) .exhausted (some .ret) :: Jx, T1, TK1, by simp only [sT, hl, hset], h2, h4, h5⟩
      | exit i => exact ⟨fr, S1, J1 ++ .lp Lp (frD n0 fr) .exhausted (some (.exit i)) :: Jx, T1, TK1, by simp only [sT, hl, hset], h2, h4, h5⟩
      | _ => exact h5.elim
theorem Shift.objsub {E : Env} {n0 m0 : Nat} {fr : List (Nat × D)} {S : List O} {tk : Tks} {id : Nat} {cs : List D} (hd : S[id]? = some (.arr cs)) (i : Nat) {d d' : D} (hi : cs[i]? = some d) (hs : Sub d d') :
    Shift E n0 m0 ⟨fr, S, tk⟩ ⟨fr, S.set id (.arr (cs.set i d')), tk⟩ := by
  intro B w0 c0 c w tmps h0 h1 h2 hr hf
  obtain ⟨cur, T, g1, g2, g3⟩ := hr.s.objF hd rfl
  have k5 := hr.s.put hd rfl (.arr (cs.set i d')) rfl w rfl rfl rfl rfl (by rw [g1]; simp) (fun _ _ => rfl) ⟨cur, T, g1, by simpa using g2, fun j v e hv he => by
    by_cases hj : i = j
    · subst hj
      rw [List.getElem?_set_self (List.getElem?_eq_some_iff.1 hi).1] at he
      cases he
      have := g3 i v _ hv hi
      exact ⟨hs c v this.1, this.2⟩
    · rw [List.getElem?_set_ne hj] at he; exact g3 j v e hv he⟩
  exact ⟨c, h0, ⟨k5, hr.g⟩, hf, fun _ h => h⟩
theorem fstep_objsub {fr' : Fr} {k : Nat} {cs : List D} (hJ : J[k]? = some (.arr cs)) (i : Nat) {d d' : D} (hi : cs[i]? = some d) (hs : Sub d d') (h : FrSub n0 fr fr') :
    FStep E n0 m0 fr J TK fr' (J.set k (.arr (cs.set i d'))) TK := by
  refine ⟨fun S T hn hm hS => ?_⟩
  have h1 := Shift.objsub (E := E) (n0 := n0) (m0 := m0) (fr := frD n0 fr) (S := S ++ J) (tk := T ++ TK) (at_own hn hJ) i hi hs
  rw [set_own hn] at h1
  exact h1.trans (Shift.frame h.le)
end
end Go.KL
