/- From a contract to a row. -/
import Derived.Test.YtjjdfplonbgpbaaDoorKL28
import Derived.Below
import Derived.ChangeSame
import Derived.ChangeVars
import Derived.JoinedOf
import Derived.RowKit
import Derived.RowKitTokens
import Derived.LaidLaws
import Derived.FnData
import Derived.SevenTiedAt
import Derived.Stop.Joined
import Derived.ProofKit
set_option linter.unusedVariables false
set_option linter.unusedSimpArgs false
namespace Go.KL
open Go Go.RowKit Go.WideShapes Go.ChangeShapes

section
variable {H : Type} {enc : TypeId × Value → H} {P : Program}

/-- a law that is true, and leaves all below as it was -/
theorem post_true {fn : Func} {s : ChangeSpec} {apart fresh handsOn : Bool} {W W' : World} {args : Array Value} {ds gs : List (DataW H)} {before : List MemPlace} {tb : TypeId}
    (hl : laidOutB P = true) (hread : ∀ t ∈ fn.params.toList, P.readableRec t = true ∧ t < P.types.size) (hres : fn.resultTypes = #[tb]) (htb : P.underlying tb = some .bool) (hvars : s.vars = [])
    (hfn : s.fn H ds = { results := [.lit (.bool true)], args := ds })
    (hW : DataW.Whole enc P fn.params.toList s.vars apart W args.toList ds gs before) (hb : Below W.heap.size W W') : s.post enc P fn apart fresh handsOn false W args (.bool true) W' := by
  have hlt : ∀ x ∈ before, x.block < W.heap.size := fun x hx => hW.lt x hx
  have hW' := hW
  obtain ⟨p, q, hA, hV, rfl, hfz, hnd⟩ := hW
  rw [hvars] at hV
  obtain ⟨rfl, rfl⟩ := trodVars_none hV
  rw [List.append_nil] at hlt hfz hnd hW'
  have stay : ∀ {ts : List TypeId} {vs : List Value} {ds : List (DataW H)} {p : List MemPlace}, (∀ t ∈ ts, P.readableRec t = true ∧ t < P.types.size) → (∀ x ∈ p, x.block < W.heap.size) → DataW.TrodAll enc P W 0 (fun _ => true) true ts vs ds p → DataW.TrodAll enc P W' 0 (fun b => decide (b < W.heap.size)) true ts vs ds p := by
    intro ts
    induction ts with
    | nil =>
      intro vs ds p _ _ h
      obtain ⟨rfl, rfl, rfl⟩ := trodAll_nil h
      rfl
    | cons t ts ih =>
      intro vs ds p hr hp h
      obtain ⟨v, vs', d, ds', p1, p2, rfl, rfl, rfl, h1, h2⟩ := trodAll_cons h
      exact ⟨p1, p2, Below.trod hl (hr t (by simp)).1 (hr t (by simp)).2 h1 hb fun x hx => hp x (by simp [hx]), ih (fun t ht => hr t (by simp [ht])) (fun x hx => hp x (by simp [hx])) h2, rfl⟩
  have hA' := stay hread hlt hA
  have hr : ∀ (b : Nat) (sp : Nat → Bool) (hd : Bool), DataW.TrodAll enc P W' b sp hd fn.resultTypes.toList ((Value.bool true).resultList fn.resultTypes.size) [.lit (.bool true)] [] := fun b sp hd => by
    rw [hres]
    exact trodAll_mk1 (shut_bool htb true)
  refine ⟨ds, [], p, [], p, [], hW', ?_, ?_, ?_, World.keptBut_mono (fun x hx => ⟨hx, ?_⟩) (hb.frame (· ∈ p)), fun _ => ?_⟩
  · rw [List.append_nil, hfn]; exact hr _ _ _
  · rw [List.append_nil, hfn]; exact hA'
  · rw [List.append_nil, hfn, hvars]; rfl
  · exact Or.inr (Or.inl hx)
  · rename_i h; cases h
end

theorem ok_u64 {n : Int} (h : (Lit.int .u64 n).wf = true) : U64 n := by
  simp [Lit.wf, IntKind.min, IntKind.max, IntKind.bits, IntKind.signed] at h
  unfold U64
  omega
theorem ok_u8 {n : Int} (h : (Lit.int .u8 n).wf = true) : 0 ≤ n ∧ n < 256 := by
  simp [Lit.wf, IntKind.min, IntKind.max, IntKind.bits, IntKind.signed] at h
  omega
theorem ok_i64 {n : Int} (h : (Lit.int .i64 n).wf = true) : I64 n := by
  simp [Lit.wf, IntKind.min, IntKind.max, IntKind.bits, IntKind.signed] at h
  unfold I64
  omega

theorem arg_agg {c : Cfg} {cs : Array Value} {es : List D} (h : VC c cs.toList es) : V c (.agg cs) (.agg es) :=
  .agg cs es (by simpa using h.1) fun j v d h1 h2 => (h.2 j v d (by simpa using h1) h2).1
theorem arg_one {c : Cfg} {v : Value} {d : D} (h : VC c [v] [d]) : V c v d := (h.2 0 v d rfl rfl).1

/-- a package's variable -/
theorem gvar {P : Program} {W : World} {n : String} {g : Nat} {cs : Array Value} {es : List D} (hg : P.globalNamed n = some g) (hv : W.var? P n = some cs) (h : VC (cfgW W) cs.toList es) : V (cfgW W) (.pointer (some ⟨g, 0, none⟩)) (.pe es 0) := by
  have hc : ∀ j, W.cell? ((⟨g, 0, none⟩ : Addr).add j) = cs[j]? := fun j => by
    have := World.var?_cell hg hv j
    rw [← this]
    unfold Addr.add
    split
    · rename_i h0; rw [h0]
    · simp
  refine V.pe ⟨g, 0, none⟩ es 0 (fun j => (cs[j]?).getD undef) (fun j d hd => ?_) (fun j d hd => ?_)
  all_goals
    have hj : j < cs.size := by have := h.1; simp at this; rw [this]; exact (List.getElem?_eq_some_iff.1 hd).1
    have hcj : cs[j]? = some cs[j] := Array.getElem?_eq_getElem hj
    obtain ⟨k1, k2⟩ := h.2 j _ d (by rw [Array.getElem?_toList]; exact hcj) hd
    rw [hcj, Option.getD_some]
  · exact cfgW_F (by rw [hc, hcj]) (k1.oneCell k2)
  · exact k1

/-- a contract, as a statement on calls -/
theorem lift {E : Env} {f : FuncId} {ds : List D} {W : World} {vs : Array Value} (h : ∀ S tk, ACalls E f ds S tk (fun r S' tk' => r = .bool true ∧ S' = S ∧ tk' = tk)) (hG : GRel E (cfgW W)) (hV : VL (cfgW W) vs ds) :
    Calls E.P f vs W (fun e W' => e = .returned (.bool true) ∧ Below W.heap.size W W') := by
  refine (h [] [] W.heap.size W (cfgW W) W vs ⟨relW W, hG⟩ hV).mono ?_
  rintro e W' ⟨v, c', r, S', tk', rfl, _, hr, hv, rfl, _, _⟩
  cases hv
  exact ⟨rfl, hr.s.below⟩

/-- a slice, one by one -/
theorem ok_list {H : Type} {α : Type} {s : Sh} {R : α → Prop} {C : α → List D} (f : ∀ d : DataW H, s.ok d → ∃ x, R x ∧ s.cells d = C x) : ∀ (es : List (DataW H)), (∀ d ∈ es, s.ok d) → ∃ l : List α, (∀ x ∈ l, R x) ∧ l.length = es.length ∧ es.map s.cells = l.map C
  | [], _ => ⟨[], by simp, rfl, rfl⟩
  | d :: es, h => by
    obtain ⟨x, h1, h2⟩ := f d (h d (by simp))
    obtain ⟨l, k1, k2, k3⟩ := ok_list f es fun e he => h e (by simp [he])
    refine ⟨x :: l, fun y hy => ?_, by simp [k2], by simp [h2, k3]⟩
    rcases List.mem_cons.1 hy with rfl | hy
    · exact h1
    · exact k1 y hy
theorem ok_sl {H : Type} {α : Type} {s : Sh} {R : α → Prop} {C : α → List D} (f : ∀ d : DataW H, s.ok d → ∃ x, R x ∧ s.cells d = C x) {d : DataW H} (h : (Sh.sl s).ok d) : ∃ l : List α, (∀ x ∈ l, R x) ∧ l.length ≤ maxLen ∧ (Sh.sl s).cells d = [.sl (l.map C)] := by
  rcases h with rfl | ⟨es, sp, rfl, hl, he⟩
  · exact ⟨[], by simp, by simp, rfl⟩
  · obtain ⟨l, h1, h2, h3⟩ := ok_list f es he
    exact ⟨l, h1, by omega, by simp only [Sh.cells, h3]⟩

/-- arguments, one by one -/
theorem VL.mk1 {c : Cfg} {v : Value} {d : D} (h : V c v d) : VL c #[v] [d] := by
  refine ⟨rfl, fun j u e hj hd => ?_⟩
  match j, hj, hd with
  | 0, hj, hd => simp at hj hd; subst hj; subst hd; exact h
  | j + 1, hj, hd => simp at hj
theorem VL.mk2 {c : Cfg} {v1 v2 : Value} {d1 d2 : D} (h1 : V c v1 d1) (h2 : V c v2 d2) : VL c #[v1, v2] [d1, d2] := by
  refine ⟨rfl, fun j u e hj hd => ?_⟩
  match j, hj, hd with
  | 0, hj, hd => simp at hj hd; subst hj; subst hd; exact h1
  | 1, hj, hd => simp at hj hd; subst hj; subst hd; exact h2
  | j + 2, hj, hd => simp at hj
theorem VL.mk3 {c : Cfg} {v1 v2 v3 : Value} {d1 d2 d3 : D} (h1 : V c v1 d1) (h2 : V c v2 d2) (h3 : V c v3 d3) : VL c #[v1, v2, v3] [d1, d2, d3] := by
  refine ⟨rfl, fun j u e hj hd => ?_⟩
  match j, hj, hd with
  | 0, hj, hd => simp at hj hd; subst hj; subst hd; exact h1
  | 1, hj, hd => simp at hj hd; subst hj; subst hd; exact h2
  | 2, hj, hd => simp at hj hd; subst hj; subst hd; exact h3
  | j + 3, hj, hd => simp at hj

end Go.KL
