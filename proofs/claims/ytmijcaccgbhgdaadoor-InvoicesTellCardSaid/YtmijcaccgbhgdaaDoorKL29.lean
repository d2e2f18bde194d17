/- From a contract to a row. -/
import Derived.Test.YtmijcaccgbhgdaaDoorKL28
import Derived.Below
import Derived.ChangeSame
import Derived.ChangeVars
import Derived.JoinedOf
import Derived.RowKit
import Derived.RowKitTokens
import Derived.LaidLaws
import Derived.FnData
import Derived.SevenTiedAt
import Derived.Stop.Joined
import Derived.ProofKit
set_option linter.unusedVariables false
set_option linter.unusedSimpArgs false
namespace Go.KL
open Go Go.RowKit Go.WideShapes Go.ChangeShapes

section
variable {H : Type} {enc : TypeId × Value → H} {P : Program}

/-- a law that is true, and leaves all below as it was -/
theorem post_true {fn : Func} {s : ChangeSpec} {apart fresh handsOn : Bool} {W W' : World} {args : Array Value} {ds gs : List (DataW H)} {before : List MemPlace} {tb : TypeId}
    (hl : laidOutB P = true) (hread : ∀ t ∈ fn.params.toList, P.readableRec t = true ∧ t < P.types.size) (hres : fn.resultTypes = #[tb]) (htb : P.underlying tb = some .bool) (hvars : s.vars = [])
    (hfn : s.fn H ds = { results := [.lit (.bool true)], args := ds })
    (hW : DataW.Whole enc P fn.params.toList s.vars apart W args.toList ds gs before) (hb : Below W.heap.size W W') : s.post enc P fn apart fresh handsOn false W args (.bool true) W' := by
  have hlt : ∀ x ∈ before, x.block < W.heap.size := fun x hx => hW.lt x hx
  have hW' := hW
  obtain ⟨p, q, hA, hV, rfl, hfz, hnd⟩ := hW
  rw [hvars] at hV
  obtain ⟨rfl, rfl⟩ := trodVars_none hV
  rw [List.append_nil] at hlt hfz hnd hW'
  have stay : ∀ {ts : List TypeId} {vs : List Value} {ds : List (DataW H)} {p : List MemPlace}, (∀ t ∈ ts, P.readableRec t = true ∧ t < P.types.size) → (∀ x ∈ p, x.block < W.heap.size) → DataW.TrodAll enc P W 0 (fun _ => true) true ts vs ds p → DataW.TrodAll enc P W' 0 (fun b => decide (b < W.heap.size)) true ts vs ds p := by
    intro ts
    induction ts with
    | nil =>
      intro vs ds p _ _ h
      obtain ⟨rfl, rfl, rfl⟩ := trodAll_nil h
      rfl
    | cons t ts ih =>
      intro vs ds p hr hp h
      obtain ⟨v, vs', d, ds', p1, p2, rfl, rfl, rfl, h1, h2⟩ := trodAll_cons h
      exact ⟨p1, p2, Below.trod hl (hr t (by simp)).1 (hr t (by simp)).2 h1 hb fun x hx => hp x (by simp [hx]), ih (fun t ht => hr t (by simp [ht])) (fun x hx => hp x (by simp [hx])) h2, rfl⟩
  have hA' := stay hread hlt hA
  have hr : ∀ (b : Nat) (sp : Nat → Bool) (hd : Bool), DataW.TrodAll enc P W' b sp hd fn.resultTypes.toList ((Value.bool true).resultList fn.resultTypes.size) [.lit (.bool true)] [] := fun b sp hd => by
    rw [hres]
    exact trodAll_mk1 (shut_bool htb true)
  refine ⟨ds, [], p, [], p, [], hW', ?_, ?_, ?_, World.keptBut_mono (fun x hx => ⟨hx, ?_⟩) (hb.frame (· ∈ p)), fun _ => ?_⟩
  · rw [List.append_nil, hfn]; exact hr _ _ _
  · rw [List.append_nil, hfn]; exact hA'
  · rw [List.append_nil, hfn, hvars]; rfl
  · exact Or.inr (Or.inl hx)
  · rename_i h; cases h
end

theorem ok_u64 {n : Int} (h : (Lit.int .u64 n).wf = true) : U64 n := by
  simp [Lit.wf, IntKind.min, IntKind.max, IntKind.bits, IntKind.signed] at h
  unfold U64
  omega
theorem ok_i64 {n : Int} (h : (Lit.int .i64 n).wf = true) : I64 n := by
  simp [Lit.wf, IntKind.min, IntKind.max, IntKind.bits, IntKind.signed] at h
  unfold I64
  omega

theorem arg_agg {c : Cfg} {cs : Array Value} {es : List D} (h : VC c cs.toList es) : V c (.agg cs) (.agg es) :=
  .agg cs es (by simpa using h.1) fun j v d h1 h2 => (h.2 j v d (by simpa using h1) h2).1
theorem arg_one {c : Cfg} {v : Value} {d : D} (h : VC c [v] [d]) : V c v d := (h.2 0 v d rfl rfl).1

/-- a package's variable -/
theorem gvar {P : Program} {W : World} {n : String} {g : Nat} {cs : Array Value} {es : List D} (hg : P.globalNamed n = some g) (hv : W.var? P n = some cs) (h : VC (cfgW W) cs.toList es) : V (cfgW W) (.pointer (some ⟨g, 0, none⟩)) (.pe es 0) := by
  have hc : ∀ j, W.cell? ((⟨g, 0, none⟩ : Addr).add j) = cs[j]? := fun j => by
    have := World.var?_cell hg hv j
    rw [← this]
    unfold Addr.add
    split
    · rename_i h0; rw [h0]
    · simp
  refine V.pe ⟨g, 0, none⟩ es 0 (fun j => (cs[j]?).getD undef) (fun j d hd => ?_) (fun j d hd => ?_)
  all_goals
    have hj : j < cs.size := by have := h.1; simp at this; rw [this]; exact (List.getElem?_eq_some_iff.1 hd).1
    have hcj : cs[j]? = some cs[j] := Array.getElem?_eq_getElem hj
    obtain ⟨k1, k2⟩ := h.2 j _ d (by rw [Array.getElem?_toList]; exact hcj) hd
    rw [hcj, Option.getD_some]
  · exact cfgW_F (by rw [hc, hcj]) (k1.oneCell k2)
  · exact k1

/-- a contract, as a statement on calls -/
theorem lift {E : Env} {f : FuncId} {ds : List D} {W : World} {vs : Array Value} (h : ∀ S tk, ACalls E f ds S tk (fun r S' tk' => r = .bool true ∧ S' = S ∧ tk' = tk)) (hG : GRel E (cfgW W)) (hV : VL (cfgW W) vs ds) :
    Calls E.P f vs W (fun e W' => e = .returned (.bool true) ∧ Below W.heap.size W W') := by
  refine (h [] [] W.heap.size W (cfgW W) W vs ⟨relW W, hG⟩ hV).mono ?_
  rintro e W' ⟨v, c', r, S', tk', rfl, _, hr, hv, rfl, _, _⟩
  cases hv
  exact ⟨rfl, hr.s.below⟩

end Go.KL
