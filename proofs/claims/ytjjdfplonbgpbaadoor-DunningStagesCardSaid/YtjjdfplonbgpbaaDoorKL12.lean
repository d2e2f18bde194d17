/- Pure steps are sound: all together. -/
import Derived.Test.YtjjdfplonbgpbaaDoorKL11
set_option linter.unusedVariables false
set_option linter.unusedSimpArgs false
namespace Go.KL
open Go Go.RowKit

section
variable {E : Env} {B : Nat} {w0 : World} {c : Cfg} {S : List O} {tk : List (Nat × TypeId × Nat)} {w : World} {a : Act} {fr : List (Nat × D)}

theorem sl_run {P : Program} {T e : TypeId} {inf : TypeInfo} (hu : P.underlying T = some (.slice e)) (hi : P.info? e = some inf) {v : Value} {x r : D} (hv : V c v x) {lo hi' mx : Option Value} {dlo dhi dmx : Option D}
    (hlo : OV c lo dlo) (hhi : OV c hi' dhi) (hmx : OV c mx dmx) (hm : mx.isSome = true → hi'.isSome = true) (h : slD inf.size x dlo dhi dmx = some r) : ∃ u, (Instr.sliceAt T v lo hi' mx).run P w = .ok u w ∧ V c u r := by
  have rdcase : ∀ es, x.rd = some es → (if ∀ e ∈ es, e.length = inf.size then
        match dmx with
        | none => match bnd es.length dhi es.length with
          | some h => match bnd h dlo 0 with
            | some l => some (D.sl ((es.take h).drop l))
            | none => none
          | none => none
        | some m => match bnd es.length (some m) 0 with
          | some m => match bnd m dhi 0 with
            | some h => match bnd h dlo 0 with
              | some l => if h = m then some (D.full ((es.take h).drop l)) else some (D.sl ((es.take h).drop l))
              | none => none
            | none => none
          | none => none
      else none) = some r → ∃ u, (Instr.sliceAt T v lo hi' mx).run P w = .ok u w ∧ V c u r := by
    intro es hes h
    split at h
    · rename_i hsz
      have hsl := hv.rd hes
      obtain ⟨A, n, cap, rfl, hn, hcap⟩ : ∃ A n cap, v = .slice A n cap ∧ n = es.length ∧ es.length ≤ cap := by
        rcases hsl.slForm with ⟨rfl, rfl⟩ | ⟨ad, cap, rfl, hc⟩
        · exact ⟨_, _, _, rfl, rfl, by simp⟩
        · exact ⟨_, _, _, rfl, rfl, hc⟩
      subst hn
      cases dmx with
      | none =>
        have hmn : mx = none := by cases mx with | none => rfl | some m => exact hmx.elim
        subst hmn
        simp only at h
        split at h
        · rename_i hh h1
          split at h
          · rename_i l h2
            obtain rfl := Option.some.inj h
            obtain ⟨k1, k2, k3⟩ := bounds_run (P := P) (w := w) (isS := true) hlo hhi hcap h1 h2
            refine ⟨_, ?_, (V.sub hsl (sz := inf.size) (m := cap) hsz k2 k3 (Nat.le_trans k3 hcap) (Nat.le_refl _)).1⟩
            simp only [Instr.sliceAt, Sem.run_bind, run_underlying hu, Result.andThen_ok, Instr.slice, k1, sizeOf_run hi, Sem.run_pure]
          · cases h
        · cases h
      | some dm =>
        obtain ⟨m, rfl⟩ : ∃ m, mx = some m := by cases mx with | none => exact hmx.elim | some m => exact ⟨m, rfl⟩
        simp only at h
        split at h
        · rename_i mm h0
          split at h
          · rename_i hh h1
            split at h
            · rename_i l h2
              obtain ⟨k1, k2, k3, k4⟩ := bounds3_run (P := P) (w := w) (isS := true) hlo hhi hmx hcap h0 (hm rfl) h1 h2
              have hsub := V.sub hsl (sz := inf.size) (l := l) (k := hh) (m := mm) hsz k2 (by omega) k3 (by omega)
              have hrun : (Instr.sliceAt T (.slice A es.length cap) lo hi' (some m)).run P w = .ok (.slice (if mm = l then A else A.map (·.add (l * inf.size))) (hh - l) (mm - l)) w := by
                simp only [Instr.sliceAt, Sem.run_bind, run_underlying hu, Result.andThen_ok, Instr.slice, k1, sizeOf_run hi, Sem.run_pure]
              split at h
              · rename_i hhm
                obtain rfl := Option.some.inj h
                exact ⟨_, hrun, hsub.2 hhm⟩
              · obtain rfl := Option.some.inj h
                exact ⟨_, hrun, hsub.1⟩
            · cases h
          · cases h
        · cases h
    · cases h
  unfold slD at h
  split at h
  · rename_i x' id off n sz'
    split at h
    · rename_i hc
      obtain ⟨rfl, rfl⟩ := hc
      have hmn : mx = none := by cases mx with | none => rfl | some m => exact hmx.elim
      subst hmn
      split at h
      · rename_i hh h1
        split at h
        · rename_i l h2
          split at h
          · rename_i hln
            obtain rfl := Option.some.inj h
            cases hv with
            | osl _ _ _ _ cap hid hν hcap =>
              obtain ⟨k1, k2, k3⟩ := bounds_run (P := P) (w := w) (isS := true) hlo hhi hcap h1 h2
              refine ⟨_, ?_, .osl id (off + l * inf.size) (hh - l) inf.size (cap - l) hid hν (by omega)⟩
              have hne : ¬ (cap = l) := by omega
              simp only [Instr.sliceAt, Sem.run_bind, run_underlying hu, Result.andThen_ok, Instr.slice, k1, sizeOf_run hi, Sem.run_pure, hne, if_false, Option.map_some, add_own']
          · cases h
        · cases h
      · cases h
    · cases h
  · split at h
    · rename_i es hes
      exact rdcase es hes h
    · cases h

theorem strSl_run {P : Program} {T : TypeId} (hu : P.underlying T = some .string) {s : ByteArray} {r : D} {lo hi : Option Value} {dlo dhi : Option D} (hlo : OV c lo dlo) (hhi : OV c hi dhi) (h : strSl s dlo dhi = some r) :
    ∃ u, (Instr.sliceAt T (.string s) lo hi none).run P w = .ok u w ∧ V c u r := by
  unfold strSl at h
  split at h
  · rename_i hh h1
    split at h
    · rename_i l h2
      obtain rfl := Option.some.inj h
      obtain ⟨k1, k2, k3⟩ := bounds_run (P := P) (w := w) (isS := false) hlo hhi (Nat.le_refl s.size) h1 h2
      refine ⟨_, ?_, .str _⟩
      simp only [Instr.sliceAt, Sem.run_bind, run_underlying hu, Result.andThen_ok, Instr.slice, Option.isSome_none, Bool.false_eq_true, if_false, Sem.run_pure, k1]
    · cases h
  · cases h

theorem mm_run {P : Program} {mx : Bool} : ∀ (vs : List Value) (ds : List D) (v : Value) (d r : D), V c v d → vs.length = ds.length → (∀ (j : Nat) v d, vs[j]? = some v → ds[j]? = some d → V c v d) → mmD mx d ds = some r →
    ∃ u, (vs.foldlM (if mx = true then Builtin.max2 else Builtin.min2) v).run P w = .ok u w ∧ V c u r
  | [], ds, v, d, r, hv, hl, hh, h => by
    have : ds = [] := List.eq_nil_of_length_eq_zero (by simpa using hl.symm)
    subst this
    simp only [mmD, Option.some.injEq] at h
    subst h
    exact ⟨v, by simp, hv⟩
  | u :: vs, [], v, d, r, hv, hl, hh, h => by simp at hl
  | u :: vs, e :: ds, v, d, r, hv, hl, hh, h => by
    have hu := hh 0 u e rfl rfl
    cases d <;> cases e <;> simp only [mmD, reduceCtorEq] at h
    rename_i k x k' y
    obtain rfl := hv.intInv
    obtain rfl := hu.intInv
    split at h
    · rename_i hk
      subst hk
      have ih := fun v' (hv' : V c v' _) => mm_run (P := P) vs ds v' _ r hv' (by simpa using hl) (fun j v d h1 h2 => hh (j + 1) v d (by simpa using h1) (by simpa using h2)) h
      obtain ⟨u, h1, h2⟩ := ih _ (.int _ _)
      refine ⟨u, ?_, h2⟩
      rw [← h1]
      cases mx <;> simp [List.foldlM_cons, Builtin.max2, Builtin.min2]
    · cases h

theorem len_run {P : Program} {T ty : TypeId} {q : Nat} {td : TypeDesc} (hu : P.underlying T = some td) (hq : (q = 0 ∧ td = .string) ∨ (q = 1 ∧ ∃ e, td = .slice e) ∨ (q = 2 ∧ ∃ k e, td = .map k e)) (hr : RelS B w0 c S tk w)
    {v : Value} {x : D} {n : Int} (hv : V c v x) (h : lenD S q x = some n) : (Builtin.len_ #[T] ty #[v]).run P w = .ok (.int .i64 n) w := by
  rcases hq with ⟨rfl, rfl⟩ | ⟨rfl, e, rfl⟩ | ⟨rfl, k, e, rfl⟩
  · cases x <;> simp only [lenD, reduceCtorEq, Option.some.injEq] at h
    subst h
    obtain rfl := hv.strInv
    simp [Builtin.len_, run_underlying hu, goInt]
  · have rd : ∀ es, x.rd = some es → (es.length : Int) = n → (Builtin.len_ #[T] ty #[v]).run P w = .ok (.int .i64 n) w := by
      intro es hes hn
      subst hn
      rcases (hv.rd hes).slForm with ⟨rfl, rfl⟩ | ⟨ad, cap, rfl, hc⟩
      · simp [Builtin.len_, run_underlying hu, goInt]
      · simp [Builtin.len_, run_underlying hu, goInt]
    cases hv
    case osl id off m sz cap hid hν hcap =>
      simp only [lenD, Option.some.injEq] at h
      subst h
      simp [Builtin.len_, run_underlying hu, goInt]
    case vec =>
      simp only [lenD, Option.some.injEq] at h
      subst h
      simp [Builtin.len_, run_underlying hu, goInt]
    all_goals
      simp only [lenD, D.rd, reduceCtorEq, Option.some.injEq] at h
      try exact rd _ rfl h
  · cases x <;> simp only [lenD, reduceCtorEq, Option.some.injEq] at h
    case map id =>
      obtain ⟨rfl, hid⟩ := hv.mapInv
      split at h
      · rename_i kv hkv
        obtain rfl := Option.some.inj h
        obtain ⟨es, h1, h2, _⟩ := hr.objF hkv rfl
        simp [Builtin.len_, run_underlying hu, goInt, getObj, Sem.run, h1, h2]
      · cases h
    case nilmap =>
      subst h
      obtain rfl := hv.nilmapInv
      simp [Builtin.len_, run_underlying hu, goInt]

end
end Go.KL
