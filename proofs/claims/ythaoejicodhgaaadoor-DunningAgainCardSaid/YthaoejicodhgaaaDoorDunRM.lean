/- the row of DunningRuns -/
import Derived.Test.YthaoejicodhgaaaDoorDun
import Derived.Test.YthaoejicodhgaaaDoorKL29
import Derived.Test.YthaoejicodhgaaaDoorRows
import Derived.Test.YthaoejicodhgaaaDoorTie
set_option linter.unusedVariables false
set_option linter.unusedSimpArgs false
set_option maxRecDepth 100000
set_option maxHeartbeats 4000000
namespace Go.KL.YthaoejicodhgaaaDoor.U
open Go Go.KL Go.RowKit Go.Proofs Go.Proofs.YthaoejicodhgaaaDoor Go.ChangeShapes Go.WideShapes

theorem own : ownKnob Tryd.prog.godebug = none := by kernel_rfl
theorem laidOut : laidOutB Tryd.prog = true := by kernel_rfl

def shInv : Sh := .agg [.int .u64, .int .u64, .int .u64, .int .i64, .int .i64, .int .i64, .int .i64, .int .i64, .int .i64, .int .i64, .int .i64]
def shDn : Sh := .agg [.int .u64, .int .i64, .int .i64]
def shPo : Sh := .agg [.sl (.int .i64), .int .i64]
def shAsked : Sh := .agg [shPo, .sl shDn, .sl shInv, .int .i64]
theorem shapeAsked : (shape Tryd.prog 40 28) = some shAsked := by kernel_rfl
theorem shapeB : (shape Tryd.prog 30 169) = some (.agg (List.replicate 4 (.int .i64))) := by kernel_rfl

theorem ok_inv {H : Type} {d : DataW H} (h : shInv.ok d) : ∃ x : Iv, x.R ∧ shInv.cells d = x.cs := by
  obtain ⟨parts, rfl, d1, _, rfl, ⟨n1, rfl, w1⟩, d2, _, rfl, ⟨n2, rfl, w2⟩, d3, _, rfl, ⟨n3, rfl, w3⟩, d4, _, rfl, ⟨n4, rfl, w4⟩, d5, _, rfl, ⟨n5, rfl, w5⟩, d6, _, rfl, ⟨n6, rfl, w6⟩, d7, _, rfl, ⟨n7, rfl, w7⟩, d8, _, rfl, ⟨n8, rfl, w8⟩, d9, _, rfl, ⟨n9, rfl, w9⟩, d10, _, rfl, ⟨n10, rfl, w10⟩, d11, _, rfl, ⟨n11, rfl, w11⟩, rfl⟩ := h
  exact ⟨⟨n1, n2, n3, n4, n5, n6, n7, n8, n9, n10, n11⟩, ⟨ok_u64 w1, ok_u64 w2, ok_u64 w3, ok_i64 w4, ok_i64 w5, ok_i64 w6, ok_i64 w7, ok_i64 w8, ok_i64 w9, ok_i64 w10, ok_i64 w11⟩, rfl⟩
theorem ok_dn {H : Type} {d : DataW H} (h : shDn.ok d) : ∃ x : Dn, (U64 x.inv ∧ I64 x.st ∧ I64 x.si) ∧ shDn.cells d = x.cs := by
  obtain ⟨parts, rfl, d1, _, rfl, ⟨n1, rfl, w1⟩, d2, _, rfl, ⟨n2, rfl, w2⟩, d3, _, rfl, ⟨n3, rfl, w3⟩, rfl⟩ := h
  exact ⟨⟨n1, n2, n3⟩, ⟨ok_u64 w1, ok_i64 w2, ok_i64 w3⟩, rfl⟩
theorem ok_po {H : Type} {d : DataW H} (h : shPo.ok d) : ∃ p : Po, ((∀ n ∈ p.days, I64 n) ∧ I64 p.lose) ∧ shPo.cells d = [.sl (i64s p.days), .int .i64 p.lose] := by
  obtain ⟨parts, rfl, d1, _, rfl, h1, d2, _, rfl, ⟨n2, rfl, w2⟩, rfl⟩ := h
  obtain ⟨l, hl, hll, hc⟩ := ok_sl (R := I64) (C := fun n => [.int .i64 n]) (fun d (h : (Sh.int .i64).ok d) => by obtain ⟨n, rfl, w⟩ := h; exact ⟨n, ok_i64 w, rfl⟩) h1
  refine ⟨⟨l, n2⟩, ⟨hl, ok_i64 w2⟩, ?_⟩
  show (Sh.sl (.int .i64)).cells d1 ++ _ = _
  rw [hc]; rfl
theorem ok_asked {H : Type} {d : DataW H} (h : shAsked.ok d) : ∃ (p : Po) (duns : List Dn) (l : List Iv) (day : Int), ((∀ n ∈ p.days, I64 n) ∧ I64 p.lose) ∧ (∀ d ∈ duns, U64 d.inv ∧ I64 d.st ∧ I64 d.si) ∧ (∀ x ∈ l, x.R) ∧ I64 day ∧ shAsked.cells d = [.sl (i64s p.days), .int .i64 p.lose, .sl (dns duns), .sl (ivs l), .int .i64 day] := by
  obtain ⟨parts, rfl, d1, _, rfl, h1, d2, _, rfl, h2, d3, _, rfl, h3, d4, _, rfl, ⟨n4, rfl, w4⟩, rfl⟩ := h
  obtain ⟨p, hp, hpc⟩ := ok_po h1
  obtain ⟨duns, hd, _, hdc⟩ := ok_sl (R := fun x : Dn => U64 x.inv ∧ I64 x.st ∧ I64 x.si) (C := Dn.cs) (fun d h => ok_dn h) h2
  obtain ⟨l, hl, _, hlc⟩ := ok_sl (R := Iv.R) (C := Iv.cs) (fun d h => ok_inv h) h3
  refine ⟨p, duns, l, n4, hp, hd, hl, ok_i64 w4, ?_⟩
  show shPo.cells d1 ++ ((Sh.sl shDn).cells d2 ++ ((Sh.sl shInv).cells d3 ++ _)) = _
  rw [hpc, hdc, hlc]; rfl

theorem bounds_g : Tryd.prog.globalNamed "quittance/invoices.bounds" = some 0 := by kernel_rfl
theorem bounds_t : (Tryd.prog.globals[0]?).map (·.type) = some 169 := by kernel_rfl
theorem gok {W : World} (h : laidMetH Tryd.prog [("quittance/invoices.bounds", Rows.laid_quittance_invoices_bounds)] W) : GRel E0 (cfgW W) := by
  have h' : laidMet Tryd.prog [("quittance/invoices.bounds", Rows.laid_quittance_invoices_bounds)] W := h
  obtain ⟨ps, ⟨g, t, cs, fuel, p, q, e1, e2, e3, e4, _⟩, _⟩ := h'
  rw [bounds_g] at e1
  obtain rfl := Option.some.inj e1
  rw [bounds_t] at e2
  obtain rfl := Option.some.inj e2
  have hv := (shOk Tryd.prog (fun _ => ()) W (fun _ => true) false 30 169 _ shapeB fuel cs.toList _ p e4).1
  intro g' e he
  have hg : g' = 0 ∧ e = [.int .i64 0, .int .i64 30, .int .i64 60, .int .i64 90] := by
    simp only [E0] at he
    split at he
    · rename_i h0; exact ⟨h0, (Option.some.inj he).symm⟩
    · cases he
  obtain ⟨rfl, rfl⟩ := hg
  exact gvar bounds_g e3 hv

/-- a world that meets the condition -/
noncomputable def laidWorld (os : Os) : World :=
  let w0 := World.holding Tryd.prog os ⟨#[], #[], []⟩
  { w0 with heap := w0.heap.modify 0 fun
      | .cells _ t frozen => .cells #[.int .i64 0, .int .i64 30, .int .i64 60, .int .i64 90] t frozen
      | o => o }
theorem laidWorld_met (os : Os) (args : Array Value) : laidMetH Tryd.prog [("quittance/invoices.bounds", Rows.laid_quittance_invoices_bounds)] ((laidWorld os).forCall (fun _ _ => 0) ⟨#[], args, []⟩).memory :=
  show laidMet _ _ _ from laidMet_of_run (ps := MemPlace.row ⟨0, 0, none⟩ 4) 8 (by kernel_rfl) (by kernel_rfl) (by kernel_rfl)

def zeroAsked : Value := .agg #[.slice none 0 0, .int .i64 0, .slice none 0 0, .slice none 0 0, .int .i64 0]

theorem runs_lifted (os : Os) (started : os.Started) (H : Type) (enc : TypeId × Value → H) :
    ReturnsInHanded {} Tryd.checked os 3 .any (fun w args => (Rows.dunningRunsSpec.pre enc Tryd.prog Tryd.f3 [] false w args ∧ laidMetH Tryd.prog Rows.dunningRunsRow.laid w) ∧ sizedMet enc Tryd.prog Tryd.f3 (OpenSpec.ofChange Rows.dunningRunsSpec) false w args)
      (Rows.dunningRunsSpec.post enc Tryd.prog Tryd.f3 false true false false) := by
  refine returnsInHanded_of_change_and (C := Tryd.checked) (X := fun w _ => laidMetH Tryd.prog Rows.dunningRunsRow.laid w) (fun _ _ _ hh h => h.of_heap hh) own started (by kernel_rfl) Tryd.func3
    (ChangeSpec.witness_at (enc := enc) (C := Tryd.checked) (os := os) (X := fun w _ => laidMetH Tryd.prog Rows.dunningRunsRow.laid w) false (laidWorld os) #[zeroAsked] 8 rfl (by kernel_rfl) (by kernel_rfl) (by kernel_rfl) (by kernel_rfl) (by kernel_rfl) (laidWorld_met os _)) ?_
  intro W base args ds gs before hval0 hW _ _ hL _
  have hval : ∀ (j : Nat) t v, Tryd.f3.params[j]? = some t → args[j]? = some v → Value.okWide Tryd.prog W .any base t v := hval0
  have hW' := hW
  obtain ⟨p, q, hA0, hV0, rfl, hfz, hnd⟩ := hW
  have hA : DataW.TrodAll enc Tryd.prog W 0 (fun _ => true) true Tryd.f3.params.toList args.toList ds p := hA0
  rw [Tryd.params3] at hA hval
  obtain ⟨v0, d0, rfl, rfl, h0⟩ := trodAll_one hA
  obtain ⟨c0, rfl, _⟩ := okWide_struct Tryd.underlying28 (hval 0 28 v0 rfl rfl)
  obtain ⟨fuel, h0'⟩ := h0
  obtain ⟨k1, k2, _⟩ := shOk Tryd.prog enc W (fun _ => true) true 40 28 _ shapeAsked fuel _ _ _ h0'
  obtain ⟨po, duns, l, day, hp, hd, hl, hday, hcs⟩ := ok_asked k2
  rw [hcs] at k1
  refine (lift (Runs po duns l day hp.1 hp.2 hl hd hday) (gok hL) (VL.mk1 (arg_agg k1))).mono fun e W' ⟨he, hb⟩ => ?_
  refine ⟨_, he, post_true laidOut ?_ (tb := 4) (by kernel_rfl) Tryd.underlying4 rfl ?_ hW' hb⟩
  · rw [Tryd.params3]; intro t ht; simp at ht; rcases ht with rfl; exact ⟨by kernel_rfl, of_decide_eq_true (by kernel_rfl)⟩
  · rfl

theorem runs_holds : Rows.DunningRunsSaid :=
  OpenClaim.holds_of_wide 3 Tryd.f3 rfl rfl rfl rfl rfl rfl rfl ⟨rfl, rfl, rfl, rfl, rfl⟩ rfl rfl rfl rfl rfl (by kernel_rfl) Tryd.func3 (by kernel_rfl)
    (of_decide_eq_true (by kernel_rfl)) (by unfold Func.isWrapper; rw [if_neg (of_decide_eq_false (by kernel_rfl))]; exact ⟨rfl, rfl⟩)
    (fun os started H enc _ => runs_lifted os started H enc)
end Go.KL.YthaoejicodhgaaaDoor.U
