/- the rows of layer 24 -/
import Derived.Test.YtmijcaccgbhgdaaDoorLaw24
import Derived.Test.YtmijcaccgbhgdaaDoorKL29
import Derived.Test.YtmijcaccgbhgdaaDoorRows
import Derived.Test.YtmijcaccgbhgdaaDoorTie
set_option linter.unusedVariables false
set_option linter.unusedSimpArgs false
set_option maxRecDepth 100000
set_option maxHeartbeats 4000000
namespace Go.KL.YtmijcaccgbhgdaaDoor
open Go Go.KL Go.RowKit Go.Proofs Go.Proofs.YtmijcaccgbhgdaaDoor Go.ChangeShapes Go.WideShapes

theorem own : ownKnob Tryd.prog.godebug = none := by kernel_rfl
theorem laidOut : laidOutB Tryd.prog = true := by kernel_rfl

def shInv : Sh := .agg [.int .u64, .int .u64, .int .u64, .int .i64, .int .i64, .int .i64, .int .i64, .int .i64, .int .i64, .int .i64, .int .i64]
theorem shape24 : (shape Tryd.prog 30 24) = some shInv := by kernel_rfl
theorem shape62 : (shape Tryd.prog 30 62) = some (.agg (List.replicate 4 (.int .i64))) := by kernel_rfl

theorem ok_inv {H : Type} {d : DataW H} (h : shInv.ok d) : ∃ x : Iv, x.R ∧ shInv.cells d = x.cs := by
  obtain ⟨parts, rfl, d1, _, rfl, ⟨n1, rfl, w1⟩, d2, _, rfl, ⟨n2, rfl, w2⟩, d3, _, rfl, ⟨n3, rfl, w3⟩, d4, _, rfl, ⟨n4, rfl, w4⟩, d5, _, rfl, ⟨n5, rfl, w5⟩, d6, _, rfl, ⟨n6, rfl, w6⟩, d7, _, rfl, ⟨n7, rfl, w7⟩, d8, _, rfl, ⟨n8, rfl, w8⟩, d9, _, rfl, ⟨n9, rfl, w9⟩, d10, _, rfl, ⟨n10, rfl, w10⟩, d11, _, rfl, ⟨n11, rfl, w11⟩, rfl⟩ := h
  exact ⟨⟨n1, n2, n3, n4, n5, n6, n7, n8, n9, n10, n11⟩, ⟨ok_u64 w1, ok_u64 w2, ok_u64 w3, ok_i64 w4, ok_i64 w5, ok_i64 w6, ok_i64 w7, ok_i64 w8, ok_i64 w9, ok_i64 w10, ok_i64 w11⟩, rfl⟩

theorem bounds_g : Tryd.prog.globalNamed "quittance/invoices.bounds" = some 0 := by kernel_rfl
theorem bounds_t : (Tryd.prog.globals[0]?).map (·.type) = some 62 := by kernel_rfl

theorem gok {W : World} (h : laidMetH Tryd.prog [("quittance/invoices.bounds", Rows.laid_quittance_invoices_bounds)] W) : GRel E0 (cfgW W) := by
  have h' : laidMet Tryd.prog [("quittance/invoices.bounds", Rows.laid_quittance_invoices_bounds)] W := h
  obtain ⟨ps, ⟨g, t, cs, fuel, p, q, e1, e2, e3, e4, _⟩, _⟩ := h'
  rw [bounds_g] at e1
  obtain rfl := Option.some.inj e1
  rw [bounds_t] at e2
  obtain rfl := Option.some.inj e2
  have hv := (shOk Tryd.prog (fun _ => ()) W (fun _ => true) false 30 62 _ shape62 fuel cs.toList _ p e4).1
  intro g' e he
  have hg : g' = 0 ∧ e = [.int .i64 0, .int .i64 30, .int .i64 60, .int .i64 90] := by
    simp only [E0] at he
    split at he
    · rename_i h0; exact ⟨h0, (Option.some.inj he).symm⟩
    · cases he
  obtain ⟨rfl, rfl⟩ := hg
  exact gvar bounds_g e3 hv

/-- a world that meets the condition -/
noncomputable def laidWorld (os : Os) : World :=
  let w0 := World.holding Tryd.prog os ⟨#[], #[], []⟩
  { w0 with heap := w0.heap.modify 0 fun
      | .cells _ t frozen => .cells #[.int .i64 0, .int .i64 30, .int .i64 60, .int .i64 90] t frozen
      | o => o }
theorem laidWorld_met (os : Os) (args : Array Value) : laidMetH Tryd.prog [("quittance/invoices.bounds", Rows.laid_quittance_invoices_bounds)] ((laidWorld os).forCall (fun _ _ => 0) ⟨#[], args, []⟩).memory :=
  show laidMet _ _ _ from laidMet_of_run (ps := MemPlace.row ⟨0, 0, none⟩ 4) 8 (by kernel_rfl) (by kernel_rfl) (by kernel_rfl)

def zeroInv : Value := .agg #[.int .u64 0, .int .u64 0, .int .u64 0, .int .i64 0, .int .i64 0, .int .i64 0, .int .i64 0, .int .i64 0, .int .i64 0, .int .i64 0, .int .i64 0]

theorem tell_lifted (os : Os) (started : os.Started) (H : Type) (enc : TypeId × Value → H) :
    ReturnsInHanded {} Tryd.checked os 5 .any (fun w args => (Rows.invoicesTellSpec.pre enc Tryd.prog Tryd.f5 [] false w args ∧ laidMetH Tryd.prog Rows.invoicesTellRow.laid w) ∧ sizedMet enc Tryd.prog Tryd.f5 (OpenSpec.ofChange Rows.invoicesTellSpec) false w args)
      (Rows.invoicesTellSpec.post enc Tryd.prog Tryd.f5 false true false false) := by
  refine returnsInHanded_of_change_and (C := Tryd.checked) (X := fun w _ => laidMetH Tryd.prog Rows.invoicesTellRow.laid w) (fun _ _ _ hh h => h.of_heap hh) own started (by kernel_rfl) Tryd.func5
    (ChangeSpec.witness_at (enc := enc) (C := Tryd.checked) (os := os) (X := fun w _ => laidMetH Tryd.prog Rows.invoicesTellRow.laid w) false (laidWorld os) #[zeroInv, .int .i64 0] 8 rfl (by kernel_rfl) (by kernel_rfl) (by kernel_rfl) (by kernel_rfl) (by kernel_rfl) (laidWorld_met os _)) ?_
  intro W base args ds gs before hval0 hW _ _ hL _
  have hval : ∀ (j : Nat) t v, Tryd.f5.params[j]? = some t → args[j]? = some v → Value.okWide Tryd.prog W .any base t v := hval0
  have hW' := hW
  obtain ⟨p, q, hA0, hV0, rfl, hfz, hnd⟩ := hW
  have hA : DataW.TrodAll enc Tryd.prog W 0 (fun _ => true) true Tryd.f5.params.toList args.toList ds p := hA0
  rw [Tryd.params5] at hA hval
  obtain ⟨v0, v1, d0, d1, p0, p1, rfl, rfl, rfl, h0, h1⟩ := trodAll_two hA
  obtain ⟨c0, rfl, _⟩ := okWide_struct Tryd.underlying24 (hval 0 24 v0 rfl rfl)
  obtain ⟨n, rfl, rfl, rfl, wn⟩ := open_int Tryd.underlying2 (hval 1 2 v1 rfl rfl) h1
  obtain ⟨fuel, h0'⟩ := h0
  obtain ⟨k1, k2, _⟩ := shOk Tryd.prog enc W (fun _ => true) true 30 24 _ shape24 fuel _ _ _ h0'
  obtain ⟨x, hx, hcs⟩ := ok_inv k2
  rw [hcs] at k1
  have hV : VL (cfgW W) #[.agg c0, .int .i64 n] [x.d, .int .i64 n] := by
    refine ⟨rfl, fun j v d hj hd => ?_⟩
    match j, hj, hd with
    | 0, hj, hd => simp at hj hd; subst hj; subst hd; exact arg_agg k1
    | 1, hj, hd => simp at hj hd; subst hj; subst hd; exact .int _ _
    | j + 2, hj, hd => simp at hj
  refine (lift (Tell x hx n (ok_i64 wn)) (gok hL) hV).mono fun e W' ⟨he, hb⟩ => ?_
  refine ⟨_, he, post_true laidOut ?_ (tb := 4) (by kernel_rfl) Tryd.underlying4 rfl ?_ hW' hb⟩
  · rw [Tryd.params5]; intro t ht; simp at ht; rcases ht with rfl | rfl <;> exact ⟨by kernel_rfl, of_decide_eq_true (by kernel_rfl)⟩
  · rfl

theorem tell_holds : Rows.InvoicesTellSaid :=
  OpenClaim.holds_of_wide 5 Tryd.f5 rfl rfl rfl rfl rfl rfl rfl ⟨rfl, rfl, rfl, rfl, rfl⟩ rfl rfl rfl rfl rfl (by kernel_rfl) Tryd.func5 (by kernel_rfl)
    (of_decide_eq_true (by kernel_rfl)) (by unfold Func.isWrapper; rw [if_neg (of_decide_eq_false (by kernel_rfl))]; exact ⟨rfl, rfl⟩)
    (fun os started H enc _ => tell_lifted os started H enc)

theorem shape25 : (shape Tryd.prog 31 25) = some (.sl shInv) := by kernel_rfl

theorem age_lifted (os : Os) (started : os.Started) (H : Type) (enc : TypeId × Value → H) :
    ReturnsInHanded {} Tryd.checked os 3 .any (fun w args => (Rows.invoicesAgeSpec.pre enc Tryd.prog Tryd.f3 [] false w args ∧ laidMetH Tryd.prog Rows.invoicesAgeRow.laid w) ∧ sizedMet enc Tryd.prog Tryd.f3 (OpenSpec.ofChange Rows.invoicesAgeSpec) false w args)
      (Rows.invoicesAgeSpec.post enc Tryd.prog Tryd.f3 false true false false) := by
  refine returnsInHanded_of_change_and (C := Tryd.checked) (X := fun w _ => laidMetH Tryd.prog Rows.invoicesAgeRow.laid w) (fun _ _ _ hh h => h.of_heap hh) own started (by kernel_rfl) Tryd.func3
    (ChangeSpec.witness_at (enc := enc) (C := Tryd.checked) (os := os) (X := fun w _ => laidMetH Tryd.prog Rows.invoicesAgeRow.laid w) false (laidWorld os) #[zeroInv, .slice none 0 0, .int .i64 0] 8 rfl (by kernel_rfl) (by kernel_rfl) (by kernel_rfl) (by kernel_rfl) (by kernel_rfl) (laidWorld_met os _)) ?_
  intro W base args ds gs before hval0 hW _ _ hL _
  have hval : ∀ (j : Nat) t v, Tryd.f3.params[j]? = some t → args[j]? = some v → Value.okWide Tryd.prog W .any base t v := hval0
  have hW' := hW
  obtain ⟨p, q, hA0, hV0, rfl, hfz, hnd⟩ := hW
  have hA : DataW.TrodAll enc Tryd.prog W 0 (fun _ => true) true Tryd.f3.params.toList args.toList ds p := hA0
  rw [Tryd.params3] at hA hval
  obtain ⟨v0, v1, v2, d0, d1, d2, p0, p1, p2, rfl, rfl, rfl, h0, h1, h2⟩ := trodAll_three hA
  obtain ⟨c0, rfl, _⟩ := okWide_struct Tryd.underlying24 (hval 0 24 v0 rfl rfl)
  obtain ⟨a1, len1, cap1, rfl⟩ := okWide_slice Tryd.underlying25 (hval 1 25 v1 rfl rfl)
  obtain ⟨n, rfl, rfl, rfl, wn⟩ := open_int Tryd.underlying3 (hval 2 3 v2 rfl rfl) h2
  obtain ⟨fuel, h0'⟩ := h0
  obtain ⟨k1, k2, _⟩ := shOk Tryd.prog enc W (fun _ => true) true 30 24 _ shape24 fuel _ _ _ h0'
  obtain ⟨x, hx, hcs⟩ := ok_inv k2
  rw [hcs] at k1
  obtain ⟨fuel1, h1'⟩ := h1
  obtain ⟨j1, j2, _⟩ := shOk Tryd.prog enc W (fun _ => true) true 31 25 _ shape25 fuel1 _ _ _ h1'
  obtain ⟨l, hlR, hll, hlcs⟩ := ok_sl (R := Iv.R) (C := Iv.cs) (fun d h => ok_inv h) j2
  rw [hlcs] at j1
  refine (lift (Age x hx l hlR n (ok_i64 wn)) (gok hL) (VL.mk3 (arg_agg k1) (arg_one j1) (.int _ _))).mono fun e W' ⟨he, hb⟩ => ?_
  refine ⟨_, he, post_true laidOut ?_ (tb := 4) (by kernel_rfl) Tryd.underlying4 rfl ?_ hW' hb⟩
  · rw [Tryd.params3]; intro t ht; simp at ht; rcases ht with rfl | rfl | rfl <;> exact ⟨by kernel_rfl, of_decide_eq_true (by kernel_rfl)⟩
  · rfl

theorem age_holds : Rows.InvoicesAgeSaid :=
  OpenClaim.holds_of_wide 3 Tryd.f3 rfl rfl rfl rfl rfl rfl rfl ⟨rfl, rfl, rfl, rfl, rfl⟩ rfl rfl rfl rfl rfl (by kernel_rfl) Tryd.func3 (by kernel_rfl)
    (of_decide_eq_true (by kernel_rfl)) (by unfold Func.isWrapper; rw [if_neg (of_decide_eq_false (by kernel_rfl))]; exact ⟨rfl, rfl⟩)
    (fun os started H enc _ => age_lifted os started H enc)

end Go.KL.YtmijcaccgbhgdaaDoor
