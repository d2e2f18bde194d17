/- Rules of a walk over objects: what lies behind, and what is the walk's own. -/
import Derived.Test.YtjjdfplonbgpbaaDoorKL29
set_option linter.unusedVariables false
set_option linter.unusedSimpArgs false
namespace Go.KL
open Go Go.RowKit

/-! ## loops that change older objects, too -/

structure FNextS (E : Env) (n0 m0 : Nat) {α : Type} (P : α → Prop) (μ : α → Nat) (gf : α → Fr) (gS gJ : α → List O) (gT : α → Tks) (a : α) (T0 : Tks) (fr : Fr) (S J : List O) (T TK : Tks) : Prop where
  h : T = T0 ∧ ∃ a', P a' ∧ μ a' < μ a ∧ S = gS a' ∧ FStep E n0 m0 fr J TK (gf a') (gJ a') (gT a')

theorem fnextS {E : Env} {n0 m0 : Nat} {α : Type} {P : α → Prop} {μ : α → Nat} {gf : α → Fr} {gS gJ : α → List O} {gT : α → Tks} {a : α} {S : List O} {T : Tks} {fr : Fr} {J : List O} {TK : Tks} (a' : α) (h1 : P a') (h2 : μ a' < μ a) (hS : S = gS a') (h3 : FStep E n0 m0 fr J TK (gf a') (gJ a') (gT a')) :
    FNextS E n0 m0 P μ gf gS gJ gT a T fr S J T TK := ⟨rfl, a', h1, h2, hS, h3⟩

def FRdS (E : Env) (n0 m0 : Nat) {α : Type} (P : α → Prop) (μ : α → Nat) (gf : α → Fr) (gS gJ : α → List O) (gT : α → Tks) (a : α) (T0 : Tks) (Q : X → FK) : X → FK := fun x fr S J T TK => match x with
  | .nm => FNextS E n0 m0 P μ gf gS gJ gT a T0 fr S J T TK
  | .ex id => Q (.ex id) fr S J T TK
  | .rt => Q .rt fr S J T TK

theorem floopS {E : Env} {n0 m0 : Nat} {W : Fr → List O → List O → Tks → Tks → (X → FK) → Prop} {fr : Fr} {S J : List O} {T TK : Tks} {Q : X → FK} {α : Type} (hm : T.length = m0)
    (P : α → Prop) (μ : α → Nat) (gf : α → Fr) (gS gJ : α → List O) (gT : α → Tks) (hgS : ∀ a, P a → (gS a).length = n0 ∧ OSc n0 m0 (gS a)) (a0 : α) (hP : P a0) (hS0 : S = gS a0) (h0 : FStep E n0 m0 fr J TK (gf a0) (gJ a0) (gT a0))
    (hb : ∀ a, P a → W (gf a) (gS a) (gJ a) T (gT a) (FRdS E n0 m0 P μ gf gS gJ gT a T Q)) : FLoop E n0 m0 W fr S J T TK Q := by
  subst hS0
  refine ⟨fun n fr S' J T' TK => T' = T ∧ ∃ a, P a ∧ μ a = n ∧ fr = gf a ∧ S' = gS a ∧ J = gJ a ∧ TK = gT a, μ a0, gf a0, gS a0, gJ a0, T, gT a0, h0.h _ T (hgS a0 hP).1 hm (hgS a0 hP).2, ⟨rfl, a0, hP, rfl, rfl, rfl, rfl, rfl⟩, ?_⟩
  rintro n fr S' J T' TK ⟨rfl, a, ha, rfl, rfl, rfl, rfl, rfl⟩
  refine ⟨⟨(hgS a ha).1, hm⟩, _, hb a ha, fun fr S' J T' TK h => ?_, fun id fr S' J T' TK h => h, fun fr S' J T' TK h => h⟩
  obtain ⟨rfl, a', h1, h2, rfl, h3⟩ := h.h
  exact ⟨μ a', gf a', _, gJ a', _, gT a', h2, h3.h _ _ (hgS a' h1).1 hm (hgS a' h1).2, rfl, a', h1, rfl, rfl, rfl, rfl, rfl⟩

/-! ## cuts -/

structure FCNext (E : Env) (n0 m0 : Nat) {α : Type} (P : α → Prop) (gf : α → Fr) (gS gJ : α → List O) (gT : α → Tks) (T0 : Tks) (fr : Fr) (S J : List O) (T TK : Tks) : Prop where
  h : T = T0 ∧ ∃ a, P a ∧ S = gS a ∧ FStep E n0 m0 fr J TK (gf a) (gJ a) (gT a)
theorem fcnext {E : Env} {n0 m0 : Nat} {α : Type} {P : α → Prop} {gf : α → Fr} {gS gJ : α → List O} {gT : α → Tks} {S : List O} {T : Tks} {fr : Fr} {J : List O} {TK : Tks} (a : α) (h1 : P a) (hS : S = gS a) (h3 : FStep E n0 m0 fr J TK (gf a) (gJ a) (gT a)) :
    FCNext E n0 m0 P gf gS gJ gT T fr S J T TK := ⟨rfl, a, h1, hS, h3⟩
def FCd (E : Env) (n0 m0 : Nat) {α : Type} (P : α → Prop) (gf : α → Fr) (gS gJ : α → List O) (gT : α → Tks) (T0 : Tks) (Q : X → FK) : X → FK := fun x fr S J T TK => match x with
  | .nm => FCNext E n0 m0 P gf gS gJ gT T0 fr S J T TK
  | .ex id => Q (.ex id) fr S J T TK
  | .rt => Q .rt fr S J T TK
/-- a cut: a type of states, what holds of them, and what goes on from there -/
theorem fcut {E : Env} {n0 m0 : Nat} {A B : Fr → List O → List O → Tks → Tks → (X → FK) → Prop} {fr : Fr} {S J : List O} {T TK : Tks} {Q : X → FK} {α : Type} (hm : T.length = m0)
    (P : α → Prop) (gf : α → Fr) (gS gJ : α → List O) (gT : α → Tks) (hgS : ∀ a, P a → (gS a).length = n0 ∧ OSc n0 m0 (gS a))
    (hA : A fr S J T TK (FCd E n0 m0 P gf gS gJ gT T Q)) (hB : ∀ a, P a → B (gf a) (gS a) (gJ a) T (gT a) Q) : FCut E n0 m0 A B fr S J T TK Q := by
  refine ⟨fun fr S' J T' TK => T' = T ∧ ∃ a, P a ∧ fr = gf a ∧ S' = gS a ∧ J = gJ a ∧ TK = gT a, _, hA, ?_, fun id fr S J T TK h => h, fun fr S J T TK h => h, ?_⟩
  · intro fr S J T TK h
    obtain ⟨rfl, a, h1, rfl, h3⟩ := h.h
    exact ⟨gf a, gS a, gJ a, _, gT a, h3.h _ _ (hgS a h1).1 hm (hgS a h1).2, rfl, a, h1, rfl, rfl, rfl, rfl⟩
  · rintro fr S' J T' TK ⟨rfl, a, h1, rfl, rfl, rfl, rfl⟩
    exact ⟨⟨(hgS a h1).1, hm⟩, hB a h1⟩

section
variable {E : Env} {n0 m0 : Nat} {fr : Fr} {S J : List O} {T TK : Tks}

theorem at_old {id : Nat} {o : O} (h : S[id]? = some o) : (S ++ J)[id]? = some o := by
  rw [List.getElem?_append_left (List.getElem?_eq_some_iff.1 h).1]; exact h
theorem at_own {k : Nat} {o : O} (hn : S.length = n0) (h : J[k]? = some o) : (S ++ J)[n0 + k]? = some o := by rw [← hn, lk]; exact h
theorem set_old {id : Nat} {o : O} (h : id < S.length) : (S ++ J).set id o = S.set id o ++ J := List.set_append_left _ _ h
theorem set_own {k : Nat} {o : O} (hn : S.length = n0) : (S ++ J).set (n0 + k) o = S ++ J.set k o := by rw [← hn, ls]
theorem lt_of_at {id : Nat} {o : O} (h : S[id]? = some o) : id < S.length := (List.getElem?_eq_some_iff.1 h).1

/-! ## loading -/

theorem ldV_old {id n i j m sz : Nat} {ag : Bool} {es : List (List D)} {e : TypeId} {row : List D} {d : D} (h : S[id]? = some (.vec es e sz)) (hn : es.length = n) (hr : es[i]? = some row) (hd : rdC row j m ag = some d) : ldV (S ++ J) id n i j m ag = some d := by
  simp only [ldV, at_old h, hn, if_true, hr, hd]
theorem ldV_own {k n i j m sz : Nat} {ag : Bool} {es : List (List D)} {e : TypeId} {row : List D} {d : D} (hS : S.length = n0) (h : J[k]? = some (.vec es e sz)) (hn : es.length = n) (hr : es[i]? = some row) (hd : rdC row j m ag = some d) : ldV (S ++ J) (n0 + k) n i j m ag = some d := by
  simp only [ldV, at_own hS h, hn, if_true, hr, hd]

/-- what an older object says -/
def ldO (S : List O) (id off n : Nat) (ag : Bool) : Option D := match S[id]? with
  | some (.arr cs) => rdC cs off n ag
  | _ => none
theorem ldO_old {id off n : Nat} {ag : Bool} {cs : List D} {d : D} (h : S[id]? = some (.arr cs)) (hd : rdC cs off n ag = some d) : ldO (S ++ J) id off n ag = some d := by
  simp only [ldO, at_old h, hd]
theorem ldO_own {k off n : Nat} {ag : Bool} {cs : List D} {d : D} (hS : S.length = n0) (h : J[k]? = some (.arr cs)) (hd : rdC cs off n ag = some d) : ldO (S ++ J) (n0 + k) off n ag = some d := by
  simp only [ldO, at_own hS h, hd]

theorem iaD_vec {sz id n : Nat} {k : IntKind} {i : Int} (h0 : 0 ≤ i) (h : i.toNat < n) : iaD sz (.vec id n sz) (.int k i) = some (.pv id n i.toNat 0) := by
  simp only [iaD, if_pos h0, h, and_self, if_true]

/-! ## maps -/

theorem mgD_old {kt : KT} {z k : D} {id clk : Nat} {kv : Kv} {ok : Bool} (h : S[id]? = some (.map kt kv clk)) (hk : kOK kt k = true) :
    mgD kt z ok (S ++ J) (.map id) k = some (if ok = true then .tup [mget z kv k, .bool (mfind kv k).isSome] else mget z kv k) := by
  simp only [mgD, at_old h, hk, and_self, if_true]
theorem mgD_own {kt : KT} {z k : D} {j clk : Nat} {kv : Kv} {ok : Bool} (hS : S.length = n0) (h : J[j]? = some (.map kt kv clk)) (hk : kOK kt k = true) :
    mgD kt z ok (S ++ J) (.map (n0 + j)) k = some (if ok = true then .tup [mget z kv k, .bool (mfind kv k).isSome] else mget z kv k) := by
  simp only [mgD, at_own hS h, hk, and_self, if_true]

/-! ## steps that change objects -/

theorem gk_stpo_old {n : Nat} {x v : Opd} {id off : Nat} {cs : List D} {d : D} {K : FD → List O → List O → Tks → Tks → Prop} (hn : S.length = n0) (hm : T.length = m0) (hx : fev E fr x = .d (.po id off)) (hS : S[id]? = some (.arr cs)) (hv : (fev E fr v).to n0 = d)
    (hd : d.var = true ∧ allLeaf d.cs = true ∧ d.cs.length = n ∧ off + n ≤ cs.length) (hk : K (.d .top) (S.set id (.arr (setC cs off d.cs))) J T TK) : GK E n0 m0 (.st n x v) fr S J T TK K := by
  subst hv
  refine ⟨?_⟩
  simp only [aop, ← fev_to (n := n0) x, hx, FD.to, at_old hS]
  rw [fev_to] at hd hk
  exact ⟨hd, S.set id _, J, T, TK, set_old (lt_of_at hS), rfl, by rw [List.length_set, hn], hm, hk⟩
theorem gk_stpo_own {n : Nat} {x v : Opd} {k off : Nat} {cs : List D} {d : D} {K : FD → List O → List O → Tks → Tks → Prop} (hn : S.length = n0) (hm : T.length = m0) (hx : fev E fr x = .d (.po (n0 + k) off)) (hJ : J[k]? = some (.arr cs)) (hv : (fev E fr v).to n0 = d)
    (hd : d.var = true ∧ allLeaf d.cs = true ∧ d.cs.length = n ∧ off + n ≤ cs.length) (hk : K (.d .top) S (J.set k (.arr (setC cs off d.cs))) T TK) : GK E n0 m0 (.st n x v) fr S J T TK K := by
  subst hv
  refine ⟨?_⟩
  simp only [aop, ← fev_to (n := n0) x, hx, FD.to, at_own hn hJ]
  rw [fev_to] at hd hk
  exact ⟨hd, S, J.set k _, T, TK, set_own hn, rfl, hn, hm, hk⟩

theorem gk_stpv_old {n : Nat} {x v : Opd} {id m i j sz : Nat} {es : List (List D)} {e : TypeId} {row : List D} {d : D} {K : FD → List O → List O → Tks → Tks → Prop} (hn : S.length = n0) (hm : T.length = m0) (hx : fev E fr x = .d (.pv id m i j)) (hS : S[id]? = some (.vec es e sz)) (hr : es[i]? = some row) (hv : (fev E fr v).to n0 = d)
    (hd : d.var = true ∧ allLeaf d.cs = true ∧ d.cs.length = n ∧ es.length = m ∧ j + n ≤ row.length) (hk : K (.d .top) (S.set id (.vec (es.set i (setC row j d.cs)) e sz)) J T TK) : GK E n0 m0 (.st n x v) fr S J T TK K := by
  subst hv
  refine ⟨?_⟩
  simp only [aop, ← fev_to (n := n0) x, hx, FD.to, at_old hS]
  rw [fev_to] at hd hk
  exact ⟨row, hr, hd, S.set id _, J, T, TK, set_old (lt_of_at hS), rfl, by rw [List.length_set, hn], hm, hk⟩
theorem gk_stpv_own {n : Nat} {x v : Opd} {k m i j sz : Nat} {es : List (List D)} {e : TypeId} {row : List D} {d : D} {K : FD → List O → List O → Tks → Tks → Prop} (hn : S.length = n0) (hm : T.length = m0) (hx : fev E fr x = .d (.pv (n0 + k) m i j)) (hJ : J[k]? = some (.vec es e sz)) (hr : es[i]? = some row) (hv : (fev E fr v).to n0 = d)
    (hd : d.var = true ∧ allLeaf d.cs = true ∧ d.cs.length = n ∧ es.length = m ∧ j + n ≤ row.length) (hk : K (.d .top) S (J.set k (.vec (es.set i (setC row j d.cs)) e sz)) T TK) : GK E n0 m0 (.st n x v) fr S J T TK K := by
  subst hv
  refine ⟨?_⟩
  simp only [aop, ← fev_to (n := n0) x, hx, FD.to, at_own hn hJ]
  rw [fev_to] at hd hk
  exact ⟨row, hr, hd, S, J.set k _, T, TK, set_own hn, rfl, hn, hm, hk⟩

theorem gk_mset_old {kt : KT} {x k v : Opd} {id clk : Nat} {kv : Kv} {K : FD → List O → List O → Tks → Tks → Prop} (hn : S.length = n0) (hm : T.length = m0) (hx : fev E fr x = .d (.map id)) (hS : S[id]? = some (.map kt kv clk)) (hkk : kOK kt ((fev E fr k).to n0) = true)
    (hk : K (.d .top) (S.set id (.map kt (mset kv clk ((fev E fr k).to n0) ((fev E fr v).to n0)) (mclk kv clk ((fev E fr k).to n0)))) J T TK) : GK E n0 m0 (.mset kt x k v) fr S J T TK K := by
  refine ⟨?_⟩
  simp only [aop, ← fev_to (n := n0) x, hx, FD.to, at_old hS]
  rw [fev_to] at hkk
  rw [fev_to, fev_to] at hk
  exact ⟨⟨trivial, hkk⟩, S.set id _, J, T, TK, set_old (lt_of_at hS), rfl, by rw [List.length_set, hn], hm, hk⟩
theorem gk_mset_own {kt : KT} {x k v : Opd} {j clk : Nat} {kv : Kv} {K : FD → List O → List O → Tks → Tks → Prop} (hn : S.length = n0) (hm : T.length = m0) (hx : fev E fr x = .d (.map (n0 + j))) (hJ : J[j]? = some (.map kt kv clk)) (hkk : kOK kt ((fev E fr k).to n0) = true)
    (hk : K (.d .top) S (J.set j (.map kt (mset kv clk ((fev E fr k).to n0) ((fev E fr v).to n0)) (mclk kv clk ((fev E fr k).to n0)))) T TK) : GK E n0 m0 (.mset kt x k v) fr S J T TK K := by
  refine ⟨?_⟩
  simp only [aop, ← fev_to (n := n0) x, hx, FD.to, at_own hn hJ]
  rw [fev_to] at hkk
  rw [fev_to, fev_to] at hk
  exact ⟨⟨trivial, hkk⟩, S, J.set j _, T, TK, set_own hn, rfl, hn, hm, hk⟩
theorem gk_ment_own {kt : KT} {z : D} {x k : Opd} {j clk : Nat} {kv : Kv} {K : FD → List O → List O → Tks → Tks → Prop} (hn : S.length = n0) (hm : T.length = m0) (hx : fev E fr x = .d (.map (n0 + j))) (hJ : J[j]? = some (.map kt kv clk)) (hkk : kOK kt ((fev E fr k).to n0) = true)
    (hk : fzD (.tup [mget z kv ((fev E fr k).to n0), .int .i64 (mborn kv clk ((fev E fr k).to n0))]) fun d => K (.d d) S (J.set j (.map kt (ment kv clk ((fev E fr k).to n0) z) (mclk kv clk ((fev E fr k).to n0)))) T TK) : GK E n0 m0 (.ment kt z x k) fr S J T TK K := by
  refine ⟨?_⟩
  simp only [aop, ← fev_to (n := n0) x, hx, FD.to, at_own hn hJ]
  rw [fev_to] at hkk hk
  exact ⟨⟨trivial, hkk⟩, S, J.set j _, T, TK, set_own hn, rfl, hn, hm, hk⟩
theorem gk_mest_own {x s v : Opd} {j clk : Nat} {kt : KT} {kv : Kv} {n : Int} {K : FD → List O → List O → Tks → Tks → Prop} (hn : S.length = n0) (hm : T.length = m0) (hx : fev E fr x = .d (.map (n0 + j))) (hs : fev E fr s = .d (.int .i64 n)) (hJ : J[j]? = some (.map kt kv clk)) (h0 : 0 ≤ n ∧ ∃ p ∈ kv, p.2.2 = n.toNat)
    (hk : K (.d .top) S (J.set j (.map kt (mstamp kv n.toNat ((fev E fr v).to n0)) clk)) T TK) : GK E n0 m0 (.mest x s v) fr S J T TK K := by
  refine ⟨?_⟩
  simp only [aop, ← fev_to (n := n0) x, ← fev_to (n := n0) s, hx, hs, FD.to, at_own hn hJ]
  rw [fev_to] at hk
  exact ⟨h0, S, J.set j _, T, TK, set_own hn, rfl, hn, hm, hk⟩
theorem gk_mdel_old {kt : KT} {x k : Opd} {id clk : Nat} {kv : Kv} {K : FD → List O → List O → Tks → Tks → Prop} (hn : S.length = n0) (hm : T.length = m0) (hx : fev E fr x = .d (.map id)) (hS : S[id]? = some (.map kt kv clk)) (hkk : kOK kt ((fev E fr k).to n0) = true)
    (hk : K (.d (.tup [])) (S.set id (.map kt (mdel kv ((fev E fr k).to n0)) clk)) J T TK) : GK E n0 m0 (.mdel kt x k) fr S J T TK K := by
  refine ⟨?_⟩
  simp only [aop, ← fev_to (n := n0) x, hx, FD.to, at_old hS]
  rw [fev_to] at hkk hk
  exact ⟨⟨trivial, hkk⟩, S.set id _, J, T, TK, set_old (lt_of_at hS), rfl, by rw [List.length_set, hn], hm, hk⟩
theorem gk_rng_old {x : Opd} {id clk : Nat} {kt : KT} {kv : Kv} {K : FD → List O → List O → Tks → Tks → Prop} (hn : S.length = n0) (hm : T.length = m0) (hx : fev E fr x = .d (.map id)) (hS : S[id]? = some (.map kt kv clk))
    (hk : K (.d (.po (n0 + J.length) 0)) S (J ++ [.iter id clk [] clk]) T TK) : GK E n0 m0 (.rngM x) fr S J T TK K := by
  refine ⟨?_⟩
  simp only [aop, ← fev_to (n := n0) x, hx, FD.to, at_old hS]
  exact ⟨S, J ++ [_], T, TK, by rw [List.append_assoc], rfl, hn, hm, by rw [List.length_append, hn]; exact hk⟩
theorem gk_rng_own {x : Opd} {j clk : Nat} {kt : KT} {kv : Kv} {K : FD → List O → List O → Tks → Tks → Prop} (hn : S.length = n0) (hm : T.length = m0) (hx : fev E fr x = .d (.map (n0 + j))) (hJ : J[j]? = some (.map kt kv clk))
    (hk : K (.d (.po (n0 + J.length) 0)) S (J ++ [.iter (n0 + j) clk [] clk]) T TK) : GK E n0 m0 (.rngM x) fr S J T TK K := by
  refine ⟨?_⟩
  simp only [aop, ← fev_to (n := n0) x, hx, FD.to, at_own hn hJ]
  exact ⟨S, J ++ [_], T, TK, by rw [List.append_assoc], rfl, hn, hm, by rw [List.length_append, hn]; exact hk⟩

/-- the next entry: the iterator is the walk's own, the map is not touched -/
theorem gk_nxt {x : Opd} {it mid since last clk : Nat} {seen : List Nat} {kt : KT} {kv : Kv} {K : FD → List O → List O → Tks → Tks → Prop} (hn : S.length = n0) (hm : T.length = m0) (hx : fev E fr x = .d (.po (n0 + it) 0)) (hJ : J[it]? = some (.iter mid since seen last)) (hM : (S ++ J)[mid]? = some (.map kt kv clk))
    (hg : seen = [] ∨ kv = [] ∨ ∃ p ∈ kv, p.2.2 < last) (h1 : ∀ p ∈ kv, p.2.2 ∉ seen → fzD (.tup [.bool true, p.1, p.2.1]) fun d => K (.d d) S (J.set it (.iter mid since (seen ++ [p.2.2]) clk)) T TK)
    (h2 : (∀ p ∈ kv, p.2.2 < since → p.2.2 ∈ seen) → K (.d (.tup [.bool false])) S J T TK) : GK E n0 m0 (.nxt x) fr S J T TK K := by
  refine ⟨?_⟩
  simp only [aop, ← fev_to (n := n0) x, hx, FD.to, nxtP, at_own hn hJ, hM]
  refine ⟨hg, fun p hp hs => ?_, fun hall => ⟨S, J, T, TK, rfl, rfl, hn, hm, h2 hall⟩⟩
  exact ⟨S, J.set it _, T, TK, set_own hn, rfl, hn, hm, h1 p hp hs⟩

/-! ## calls that change one object -/

/-- a call that changes an older object -/
theorem ckO {f : FuncId} {ds : List D} {K : FD → List O → List O → Tks → Tks → Prop} {d : D} {id : Nat} {o' : O} (hn : S.length = n0) (hm : T.length = m0) (hlt : id < S.length) (h : ACalls E f ds (S ++ J) (T ++ TK) (fun r S' tk' => r = d ∧ S' = (S ++ J).set id o' ∧ tk' = T ++ TK))
    (hk : fzD d fun d => K (.d d) (S.set id o') J T TK) : CK E n0 m0 f ds S J T TK K :=
  ⟨h.mono fun r S' tk' ⟨h1, h2, h3⟩ => ⟨S.set id o', J, T, TK, by rw [h2, set_old hlt], h3, by rw [List.length_set, hn], hm, h1 ▸ hk⟩⟩
/-- a call that changes an object of the walk's own -/
theorem ckJ {f : FuncId} {ds : List D} {K : FD → List O → List O → Tks → Tks → Prop} {d : D} {k : Nat} {o' : O} (hn : S.length = n0) (hm : T.length = m0) (h : ACalls E f ds (S ++ J) (T ++ TK) (fun r S' tk' => r = d ∧ S' = (S ++ J).set (n0 + k) o' ∧ tk' = T ++ TK))
    (hk : fzD d fun d => K (.d d) S (J.set k o') T TK) : CK E n0 m0 f ds S J T TK K :=
  ⟨h.mono fun r S' tk' ⟨h1, h2, h3⟩ => ⟨S, J.set k o', T, TK, by rw [h2, set_own hn], h3, hn, hm, h1 ▸ hk⟩⟩
/-- a call that lays objects and hands them on -/
theorem ckN {f : FuncId} {ds : List D} {K : FD → List O → List O → Tks → Tks → Prop} {d : D} {Jn : List O} (hn : S.length = n0) (hm : T.length = m0) (h : ACalls E f ds (S ++ J) (T ++ TK) (fun r S' tk' => r = d ∧ S' = (S ++ J) ++ Jn ∧ tk' = T ++ TK))
    (hk : fzD d fun d => K (.d d) S (J ++ Jn) T TK) : CK E n0 m0 f ds S J T TK K :=
  ⟨h.mono fun r S' tk' ⟨h1, h2, h3⟩ => ⟨S, J ++ Jn, T, TK, by rw [h2, List.append_assoc], h3, hn, hm, h1 ▸ hk⟩⟩
/-- any contract -/
theorem ckG {f : FuncId} {ds : List D} {K : FD → List O → List O → Tks → Tks → Prop} {P : D → List O → Tks → Prop} (h : ACalls E f ds (S ++ J) (T ++ TK) P) (hk : ∀ r S' tk', P r S' tk' → kAll n0 m0 K r S' tk') : CK E n0 m0 f ds S J T TK K := ⟨h.mono hk⟩
/-- a call that changes nothing, at these objects -/
theorem ckA {f : FuncId} {ds : List D} {K : FD → List O → List O → Tks → Tks → Prop} {d : D} (hn : S.length = n0) (hm : T.length = m0) (h : ACalls E f ds (S ++ J) (T ++ TK) (fun r S' tk' => r = d ∧ S' = S ++ J ∧ tk' = T ++ TK))
    (hk : fzD d fun d => K (.d d) S J T TK) : CK E n0 m0 f ds S J T TK K :=
  ⟨h.mono fun r S' tk' ⟨h1, h2, h3⟩ => ⟨S, J, T, TK, h2, h3, hn, hm, h1 ▸ hk⟩⟩
theorem cqA {f : FuncId} {ds : List D} {K : D → Prop} {d : D} (h : ACalls E f ds (S ++ J) (T ++ TK) (fun r S' tk' => r = d ∧ S' = S ++ J ∧ tk' = T ++ TK)) (hk : fzD d K) : CQ E f ds S J T TK K := ⟨d, h, hk⟩

/-! ## the end of a walk that hands on objects -/

/-- objects stay -/
theorem ffinJ {d : D} {Post : D → List O → Tks → Prop} (hp : Post d (S ++ J) (T ++ TK)) : FFin E n0 m0 S J T TK d Post := ⟨d, _, _, Shift.refl _ _ _ _, hp⟩
/-- the last objects are forgotten, the first stay -/
theorem ffinD {d d' : D} {J1 J2 : List O} {Post : D → List O → Tks → Prop} (hJ : J = J1 ++ J2) (hn : S.length = n0) (hm : T.length = m0) (hS : OSc n0 m0 S) (hs : Sub d d') (hsc : d'.sc (n0 + J1.length) m0 = true) (ho : oScL (n0 + J1.length) m0 J1 = true) (hp : Post d' (S ++ J1) T) : FFin E n0 m0 S J T TK d Post := by
  subst hJ
  have e1 : (S ++ J1).length = n0 + J1.length := by rw [List.length_append, hn]
  refine ⟨d', _, _, ?_, hp⟩
  have := Shift.drop (E := E) (n0 := n0) (m0 := m0) (fr := [(0, d)]) (fr' := [(0, d')]) (S := S ++ J1) (J := J2) (tk := T) (J' := TK) ⟨by simpa [KL.get] using hs, trivial⟩ (by omega) (by omega) (by rw [e1, hm]; simp [frSc, hsc]) (by rw [e1, hm]; exact hS.more (by omega) (Nat.le_refl _) ho)
  rwa [List.append_assoc] at this

/-- a growing row is handed back, held fast -/
theorem ffinV {d' : D} {k sz sz' : Nat} {es : List (List D)} {e : TypeId} {Post : D → List O → Tks → Prop} (hn : S.length = n0) (hm : T.length = m0) (hS : OSc n0 m0 S) (hJ : J[k]? = some (.vec es e sz)) (hsc : scLL n0 m0 es = true) (hp : Post (.sl es) S T) : FFin E n0 m0 S J T TK (.vec (n0 + k) es.length sz') Post := by
  refine ⟨.sl es, _, _, ?_, hp⟩
  have h1 := Shift.vfreeze (E := E) (n0 := n0) (m0 := m0) (fr := [(0, .vec (n0 + k) es.length sz')]) (fr' := [(0, .sl es)]) (S := S ++ J) (tk := T ++ TK) (at_own hn hJ) (t := 0) (d' := .sl es) (.vec sz') ⟨by simp [KL.get]; exact Sub.refl _, trivial⟩
  rw [set_own hn] at h1
  refine h1.trans ?_
  exact Shift.drop (FrLe.refl' _) (Nat.le_of_eq hn.symm) (Nat.le_of_eq hm.symm) (by rw [hn, hm]; simp [frSc, D.sc, hsc]) (by rw [hn, hm]; exact hS)
where
  FrLe.refl' (d : D) : FrLe [(0, d)] [(0, d)] := ⟨by simp [KL.get]; exact Sub.refl _, trivial⟩

/-! ## steps between rounds -/

/-- an empty slice is to grow as a row of the walk's own -/
theorem fstep_vec {fr' : Fr} (e : TypeId) (sz : Nat) {t : Nat} (ht : fget fr t = .d .nilsl ∨ fget fr t = .d (.full [])) (h : FrSub n0 ((t, .d (.vec (n0 + J.length) 0 sz)) :: fr) fr') : FStep E n0 m0 fr J TK fr' (J ++ [.vec [] e sz]) TK := by
  refine ⟨fun S T hn hm hS => ?_⟩
  have hle := h.le
  have e1 : (S ++ J).length = n0 + J.length := by rw [List.length_append, hn]
  have h1 := Shift.newvec (E := E) (n0 := n0) (m0 := m0) (fr := frD n0 fr) (fr' := frD n0 fr') (S := S ++ J) (tk := T ++ TK) e sz (t := t) (by rw [get_frD]; rcases ht with ht | ht <;> rw [ht] <;> simp [FD.to])
    (by rw [e1]; exact hle)
  simpa only [sT, List.append_assoc] using h1

end
end Go.KL
