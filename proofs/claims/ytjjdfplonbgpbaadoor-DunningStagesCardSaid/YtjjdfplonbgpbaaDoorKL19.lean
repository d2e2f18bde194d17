/- Regions in any order: the theorem. -/
import Derived.Test.YtjjdfplonbgpbaaDoorKL18
set_option linter.unusedVariables false
set_option linter.unusedSimpArgs false
namespace Go.KL
open Go Go.RowKit

section
variable {E : Env} {B : Nat} {w0 : World} {nt : Nat} {D0 : List Nat} {ro : Option Nat} {rm : Nat} (ops : Array Oper) (cis : List CI) (pm : List Nat) (fr0 : List (Nat × D))

def ixp (p : Nat) : Nat := pm.getD p 0
def Cp (p : Nat) : CI := cis.getD (ixp pm p) default
def pvp (p : Nat) : Bool := isPiv cis (befs ops.toList []) (ixp pm p)

/-- the frame ahead of position p -/
def Fp (ds : Nat → D) : Nat → List (Nat × D)
  | 0 => fr0
  | p + 1 => putf (Cp cis pm p).dst (ds p) (Fp ds p)

def rcp (p : Nat) : List CI := rch cis (befs ops.toList []) pm (ixp pm p)
def lp : List (CI × Option (List CI)) := pm.map fun j => (cis.getD j default, if isPiv cis (befs ops.toList []) j then some (rch cis (befs ops.toList []) pm j) else none)

theorem Fp_congr {ds ds' : Nat → D} : ∀ {p : Nat}, (∀ p', p' < p → ds p' = ds' p') → Fp cis pm fr0 ds p = Fp cis pm fr0 ds' p
  | 0, _ => rfl
  | p + 1, h => by simp only [Fp]; rw [h p (Nat.lt_succ_self p), Fp_congr fun p' hp' => h p' (Nat.lt_succ_of_lt hp')]

theorem get_putf (dst : Option Nat) (d : D) (fr : List (Nat × D)) (t : Nat) : get (putf dst d fr) t = if dst = some t then d else get fr t := by
  cases dst with
  | none => simp [putf]
  | some u => simp [putf, get]

variable {ops cis pm fr0}

theorem DGood.ix (hg : DGood ops cis pm) {p : Nat} (hp : p < ops.size) : pm[p]? = some (ixp pm p) ∧ ixp pm p < ops.size ∧ cis[ixp pm p]? = some (Cp cis pm p) := by
  have h1 : pm[p]? = some (pm[p]'(by rw [hg.npm]; exact hp)) := List.getElem?_eq_getElem _
  have h2 : ixp pm p = pm[p]'(by rw [hg.npm]; exact hp) := by rw [ixp, List.getD_eq_getElem?_getD, h1]; rfl
  rw [← h2] at h1
  have h3 := hg.lt p _ h1
  have h4 : cis[ixp pm p]? = some (cis[ixp pm p]'(by rw [hg.nops]; exact h3)) := List.getElem?_eq_getElem _
  refine ⟨h1, h3, ?_⟩
  rw [Cp, List.getD_eq_getElem?_getD, h4]
  rfl

theorem DGood.w (hg : DGood ops cis pm) {p q : Nat} (hp : p < ops.size) (hq : q < ops.size) (hne : p ≠ q) {d : Nat} (hd : (Cp cis pm p).dst = some d) :
    (Cp cis pm q).dst ≠ some d ∧ (d ∈ (Cp cis pm q).looks → if p < q then Reach ops (ixp pm q) (ixp pm p) else Reach ops (ixp pm p) (ixp pm q)) :=
  hg.writer p q _ _ _ _ (hg.ix hp).1 (hg.ix hq).1 (hg.ix hp).2.2 (hg.ix hq).2.2 hne d hd

/-- what a writer ahead of p has written -/
theorem get_Fp_in (hg : DGood ops cis pm) {ds : Nat → D} {p' t : Nat} : ∀ {p : Nat}, p ≤ ops.size → p' < p → (Cp cis pm p').dst = some t → get (Fp cis pm fr0 ds p) t = ds p'
  | 0, _, h, _ => absurd h (Nat.not_lt_zero _)
  | p + 1, hp, h, hd => by
    simp only [Fp, get_putf]
    by_cases he : p' = p
    · subst he; rw [if_pos hd]
    · rw [if_neg (hg.w (p := p') (q := p) (by omega) (by omega) he hd).1]
      exact get_Fp_in hg (by omega) (by omega) hd

theorem get_Fp_out {ds : Nat → D} {t : Nat} : ∀ {p : Nat}, (∀ p', p' < p → (Cp cis pm p').dst ≠ some t) → get (Fp cis pm fr0 ds p) t = get fr0 t
  | 0, _ => rfl
  | p + 1, h => by
    simp only [Fp, get_putf]
    rw [if_neg (h p (Nat.lt_succ_self p))]
    exact get_Fp_out fun p' hp' => h p' (Nat.lt_succ_of_lt hp')

theorem lp_drop (hg : DGood ops cis pm) {p : Nat} (hp : p < ops.size) : (lp ops cis pm).drop p = (Cp cis pm p, if pvp ops cis pm p then some (rcp ops cis pm p) else none) :: (lp ops cis pm).drop (p + 1) := by
  have hl : p < (lp ops cis pm).length := by rw [lp, List.length_map, hg.npm]; exact hp
  rw [List.drop_eq_getElem_cons hl]
  congr 1
  have h1 : pm[p]'(by rw [hg.npm]; exact hp) = ixp pm p := by
    have := (hg.ix hp).1
    rw [List.getElem?_eq_getElem (by rw [hg.npm]; exact hp)] at this
    exact Option.some.inj this
  simp only [lp, List.getElem_map, h1]
  rfl

/-- the evaluation runs on to the next pivot -/
theorem ext (hg : DGood ops cis pm) {S : List O} {tk : Tks} {K : St → Prop} : ∀ (m q : Nat) (ds : Nat → D), ops.size - q = m → q ≤ ops.size → aqs E ((lp ops cis pm).drop q) ⟨Fp cis pm fr0 ds q, S, tk⟩ K →
    ∃ q' ds', q ≤ q' ∧ q' ≤ ops.size ∧ (∀ p, p < q → ds' p = ds p) ∧ (∀ p, q ≤ p → p < q' → pvp ops cis pm p = false ∧ Fact E (Cp cis pm p) (Fp cis pm fr0 ds' p) S tk (ds' p)) ∧
      aqs E ((lp ops cis pm).drop q') ⟨Fp cis pm fr0 ds' q', S, tk⟩ K ∧ (q' = ops.size ∨ pvp ops cis pm q' = true)
  | 0, q, ds, hm, hq, h => ⟨q, ds, Nat.le_refl _, hq, fun _ _ => rfl, fun p h1 h2 => by omega, h, .inl (by omega)⟩
  | m + 1, q, ds, hm, hq, h => by
    cases hpv : pvp ops cis pm q with
    | true => exact ⟨q, ds, Nat.le_refl _, hq, fun _ _ => rfl, fun p h1 h2 => by omega, h, .inr hpv⟩
    | false =>
      rw [lp_drop hg (by omega), hpv] at h
      simp only [Bool.false_eq_true, if_false, aqs] at h
      obtain ⟨d, hf, hK⟩ := gQ_fact h
      let ds1 : Nat → D := fun p => if p = q then d else ds p
      have e0 : ∀ p, p < q → ds p = ds1 p := fun p hp => by simp only [ds1]; rw [if_neg (by omega)]
      have e1 : ds1 q = d := by simp [ds1]
      have hF : Fp cis pm fr0 ds q = Fp cis pm fr0 ds1 q := Fp_congr cis pm fr0 e0
      have hF1 : Fp cis pm fr0 ds1 (q + 1) = putf (Cp cis pm q).dst d (Fp cis pm fr0 ds q) := by simp only [Fp, e1, hF]
      rw [← hF1] at hK
      obtain ⟨q', ds', h1, h2, h3, h4, h5, h6⟩ := ext hg m (q + 1) ds1 (by omega) (by omega) hK
      refine ⟨q', ds', by omega, h2, fun p hp => by rw [h3 p (by omega), e0 p hp], fun p hp1 hp2 => ?_, h5, h6⟩
      by_cases hpq : p = q
      · subst hpq
        refine ⟨hpv, ?_⟩
        rw [h3 p (by omega), e1, ← Fp_congr cis pm fr0 (p := p) (ds := ds) (ds' := ds') (fun p' hp' => by rw [h3 p' (by omega), e0 p' hp'])]
        exact hf
      · exact h4 p (by omega) hp2

structure Inv (E : Env) (B : Nat) (w0 : World) (nt : Nat) (D0 : List Nat) (ops : Array Oper) (cis : List CI) (pm : List Nat) (fr0 : List (Nat × D)) (K : St → Prop) (c : Cfg) (a : Act) (w : World) (L : Array Bool) (q : Nat) (ds : Nat → D) (S : List O) (tk : Tks) : Prop where
  rel : RelE E B w0 c S tk w
  size : a.tmps.size = nt
  defers : Marks D0 c a
  sub : ∀ b, b ∈ D0 → b ∈ c.dd
  lsize : L.size = ops.size
  closed : Closed ops L
  qn : q ≤ ops.size
  ev : ∀ p, p < ops.size → L.getD (ixp pm p) false = true → p < q
  m1 : ∀ p, p < q → L.getD (ixp pm p) false = true → ∀ t, (Cp cis pm p).dst = some t → V c (a.tmps.getD t undef) (ds p)
  m2 : ∀ t, (∀ p, p < q → L.getD (ixp pm p) false = true → (Cp cis pm p).dst ≠ some t) → V c (a.tmps.getD t undef) (get fr0 t)
  fact : ∀ p, p < q → L.getD (ixp pm p) false = false → Fact E (Cp cis pm p) (Fp cis pm fr0 ds p) S tk (ds p)
  pivd : ∀ p, p < q → pvp ops cis pm p = true → L.getD (ixp pm p) false = true
  res : aqs E ((lp ops cis pm).drop q) ⟨Fp cis pm fr0 ds q, S, tk⟩ K
  hd : q = ops.size ∨ pvp ops cis pm q = true

theorem get_restrict (ts : List Nat) (fr : List (Nat × D)) {t : Nat} (h : t ∈ ts) : get (ts.map fun t => (t, get fr t)) t = get fr t := by
  induction ts with
  | nil => simp at h
  | cons u ts ih =>
    simp only [List.map_cons, get]
    by_cases hu : u = t
    · rw [if_pos hu, hu]
    · rw [if_neg hu]
      rcases List.mem_cons.1 h with h | h
      · exact absurd h.symm hu
      · exact ih h

theorem get_restrict_top (ts : List Nat) (fr : List (Nat × D)) {t : Nat} (h : t ∉ ts) : get (ts.map fun t => (t, get fr t)) t = .top := by
  induction ts with
  | nil => rfl
  | cons u ts ih =>
    simp only [List.mem_cons, not_or] at h
    simp only [List.map_cons, get]
    rw [if_neg (fun e => h.1 e.symm)]
    exact ih h.2

/-- what an operation that may run now looks at is as the order chosen has it -/
theorem Inv.looks {K : St → Prop} {c : Cfg} {a : Act} {w : World} {L : Array Bool} {q : Nat} {ds : Nat → D} {S : List O} {tk : Tks} (hi : Inv E B w0 nt D0 ops cis pm fr0 K c a w L q ds S tk) (hg : DGood ops cis pm)
    {p : Nat} (hp : p < ops.size) (hpq : p ≤ q) (hr : ixp pm p ∈ Region.ready .any ops L) (hL : L.getD (ixp pm p) false = false) : FRel c a.tmps ((Cp cis pm p).looks.map fun t => (t, get (Fp cis pm fr0 ds p) t)) := by
  intro t
  by_cases ht : t ∈ (Cp cis pm p).looks
  · rw [get_restrict _ _ ht]
    by_cases hw : ∃ p', p' < p ∧ (Cp cis pm p').dst = some t
    · obtain ⟨p', h1, h2⟩ := hw
      rw [get_Fp_in hg (Nat.le_of_lt hp) h1 h2]
      have hk := (hg.w (p := p') (q := p) (by omega) hp (by omega) h2).2 ht
      rw [if_pos h1] at hk
      exact hi.m1 p' (by omega) (hi.closed.ready hk hr) t h2
    · rw [get_Fp_out fun p' hp' hd => hw ⟨p', hp', hd⟩]
      refine hi.m2 t fun p'' h1 h2 h3 => ?_
      have hqn := hi.qn
      have hne : p'' ≠ p := fun e => by subst e; rw [hL] at h2; cases h2
      have hge : ¬ p'' < p := fun hlt => hw ⟨p'', hlt, h3⟩
      have hk := (hg.w (p := p'') (q := p) (by omega) hp hne h3).2 ht
      rw [if_neg hge] at hk
      have := hi.closed.reach hk h2
      rw [hL] at this; cases this
  · rw [get_restrict_top _ _ ht]; exact .top _

theorem getD_set {L : Array Bool} {i : Nat} (hi : i < L.size) (j : Nat) : (L.setIfInBounds i true).getD j false = if j = i then true else L.getD j false := by
  by_cases h : j = i
  · subst h; rw [if_pos rfl, Array.getD_eq_getD_getElem?, Array.getElem?_setIfInBounds_self_of_lt hi]; rfl
  · rw [if_neg h, Array.getD_eq_getD_getElem?, Array.getElem?_setIfInBounds_ne (fun e => h e.symm), Array.getD_eq_getD_getElem?]

theorem closed_set {L : Array Bool} {i : Nat} (h : Closed ops L) (hL : L.size = ops.size) (hr : i ∈ Region.ready .any ops L) : Closed ops (L.setIfInBounds i true) := by
  obtain ⟨_, o, ho, hall⟩ := mem_ready.1 hr
  have hi : i < L.size := by rw [hL]; exact (Array.getElem?_eq_some_iff.1 ho).1
  intro j o' hj ho' e he hb
  rw [getD_set hi] at hj ⊢
  split
  · rfl
  · by_cases hji : j = i
    · subst hji; rw [ho] at ho'; obtain rfl := Option.some.inj ho'; exact hall e he hb
    · rw [if_neg hji] at hj; exact h j o' hj ho' e he hb

/-- a value has been laid into a temporary -/
theorem put_getD {a : Act} {dst : Option Nat} {v : Value} (hd : ∀ d, dst = some d → d < a.tmps.size) (t : Nat) : (a.put dst v).tmps.getD t undef = if dst = some t then v else a.tmps.getD t undef := by
  cases dst with
  | none => simp [Act.put]
  | some d =>
    have := hd d rfl
    simp only [Act.put, Option.some.injEq]
    by_cases h : d = t
    · subst h; rw [if_pos rfl, Array.getD_eq_getD_getElem?, Array.getElem?_setIfInBounds_self_of_lt this]; rfl
    · rw [if_neg h, Array.getD_eq_getD_getElem?, Array.getElem?_setIfInBounds_ne h, Array.getD_eq_getD_getElem?]

/-- a step that changes no object -/
theorem Inv.quiet {K : St → Prop} {c : Cfg} {a : Act} {w : World} {L : Array Bool} {q : Nat} {ds : Nat → D} {S : List O} {tk : Tks} (hi : Inv E B w0 nt D0 ops cis pm fr0 K c a w L q ds S tk) (hg : DGood ops cis pm)
    {p : Nat} (hp : p < q) (hr : ixp pm p ∈ Region.ready .any ops L) (hL : L.getD (ixp pm p) false = false) (hdst : ∀ d, (Cp cis pm p).dst = some d → d < nt) {c' : Cfg} {v : Value} {w' : World} (hle : c.Le c') (hrel : RelE E B w0 c' S tk w') (hv : V c' v (ds p)) :
    Inv E B w0 nt D0 ops cis pm fr0 K c' (a.put (Cp cis pm p).dst v) w' (L.setIfInBounds (ixp pm p) true) q ds S tk := by
  have hpn : p < ops.size := Nat.lt_of_lt_of_le hp hi.qn
  have hixl : ixp pm p < L.size := by rw [hi.lsize]; exact (hg.ix hpn).2.1
  have hdl : ∀ d, (Cp cis pm p).dst = some d → d < a.tmps.size := fun d hd => by rw [hi.size]; exact hdst d hd
  have hinj : ∀ p', p' < ops.size → ixp pm p' = ixp pm p → p' = p := fun p' hp' e => hg.inj p' p (ixp pm p) (by rw [← e]; exact (hg.ix hp').1) (hg.ix hpn).1
  have hqn := hi.qn
  refine ⟨hrel, by rw [put_size]; exact hi.size, (hi.defers.mono hle).same (put_defers ..), fun b hb => hle.dd b (hi.sub b hb), by simpa using hi.lsize, closed_set hi.closed hi.lsize hr, hi.qn, ?_, ?_, ?_, ?_, ?_, hi.res, hi.hd⟩
  · intro p' hp' h
    rw [getD_set hixl] at h
    split at h
    · rename_i he; rw [hinj p' hp' he]; exact hp
    · exact hi.ev p' hp' h
  · intro p' hp' h t ht
    rw [put_getD hdl]
    by_cases hpp : p' = p
    · subst hpp; rw [if_pos ht]; exact hv
    · rw [if_neg (fun h2 => (hg.w (p := p) (q := p') hpn (by omega) (fun e => hpp e.symm) h2).1 ht)]
      rw [getD_set hixl, if_neg (fun e => hpp (hinj p' (by omega) e))] at h
      exact (hi.m1 p' hp' h t ht).mono hle
  · intro t h
    rw [put_getD hdl]
    have hne : (Cp cis pm p).dst ≠ some t := h p hp (by rw [getD_set hixl, if_pos rfl])
    rw [if_neg hne]
    refine (hi.m2 t fun p' hp' h' => h p' hp' ?_).mono hle
    rw [getD_set hixl]
    split
    · rfl
    · exact h'
  · intro p' hp' h
    rw [getD_set hixl] at h
    split at h
    · cases h
    · exact hi.fact p' hp' h
  · intro p' hp' h
    rw [getD_set hixl]
    split
    · rfl
    · exact hi.pivd p' hp' h

theorem chks_out {rs : List CI} {fr : List (Nat × D)} {S : List O} {tk : Tks} {X : Prop} (h : chks E rs fr S tk X) : X ∧ ∀ c ∈ rs, Fact E c fr S tk (getd fr c.dst) := by
  induction rs with
  | nil => exact ⟨h, by simp⟩
  | cons c r ih =>
    obtain ⟨d, h1, rfl, h2⟩ := gQ_fact h
    obtain ⟨h3, h4⟩ := ih h2
    refine ⟨h3, fun c' hc' => ?_⟩
    rcases List.mem_cons.1 hc' with rfl | hc'
    · exact h1
    · exact h4 c' hc'

theorem Fact.congr {ci : CI} {fr fr' : List (Nat × D)} {S : List O} {tk : Tks} {d : D} (h : ∀ t ∈ ci.looks, get fr t = get fr' t) (hf : Fact E ci fr S tk d) : Fact E ci fr' S tk d := by
  unfold Fact at hf ⊢
  rw [gD_congr h] at hf
  exact hf

/-- what is not written from p on is the same at q -/
theorem get_Fp_same {ds : Nat → D} {t p : Nat} : ∀ {q : Nat}, p ≤ q → (∀ p', p ≤ p' → p' < q → (Cp cis pm p').dst ≠ some t) → get (Fp cis pm fr0 ds q) t = get (Fp cis pm fr0 ds p) t
  | 0, hp, _ => by obtain rfl : p = 0 := by omega
                   rfl
  | q + 1, hp, h => by
    by_cases he : p = q + 1
    · subst he; rfl
    · simp only [Fp, get_putf]
      rw [if_neg (h q (by omega) (Nat.lt_succ_self q))]
      exact get_Fp_same (by omega) fun p' h1 h2 => h p' h1 (by omega)

/-- a pivot -/
theorem Inv.pivot {K : St → Prop} {c : Cfg} {a : Act} {w : World} {L : Array Bool} {q : Nat} {ds : Nat → D} {S : List O} {tk : Tks} (hi : Inv E B w0 nt D0 ops cis pm fr0 K c a w L q ds S tk) (hg : DGood ops cis pm)
    (hq : q < ops.size) (hpv : pvp ops cis pm q = true) (hr : ixp pm q ∈ Region.ready .any ops L) (hL : L.getD (ixp pm q) false = false) (hdst : ∀ d, (Cp cis pm q).dst = some d → d < nt) {c' : Cfg} {v : Value} {w' : World} {d : D} {S' : List O} {tk' : Tks} (hle : c.Le c') (hrel : RelE E B w0 c' S' tk' w') (hv : V c' v d)
    (hKc : chks E (rcp ops cis pm q) (Fp cis pm fr0 ds q) S' tk' (aqs E ((lp ops cis pm).drop (q + 1)) ⟨putf (Cp cis pm q).dst d (Fp cis pm fr0 ds q), S', tk'⟩ K)) :
    ∃ q' ds', Inv E B w0 nt D0 ops cis pm fr0 K c' (a.put (Cp cis pm q).dst v) w' (L.setIfInBounds (ixp pm q) true) q' ds' S' tk' := by
  obtain ⟨hK, hchk⟩ := chks_out hKc
  have hixl : ixp pm q < L.size := by rw [hi.lsize]; exact (hg.ix hq).2.1
  have hdl : ∀ d, (Cp cis pm q).dst = some d → d < a.tmps.size := fun d hd => by rw [hi.size]; exact hdst d hd
  have hinj : ∀ p', p' < ops.size → ixp pm p' = ixp pm q → p' = q := fun p' hp' e => hg.inj p' q (ixp pm q) (by rw [← e]; exact (hg.ix hp').1) (hg.ix hq).1
  let ds1 : Nat → D := fun p => if p = q then d else ds p
  have e0 : ∀ p, p < q → ds p = ds1 p := fun p hp => by simp only [ds1]; rw [if_neg (by omega)]
  have e1 : ds1 q = d := by simp [ds1]
  have hF : Fp cis pm fr0 ds q = Fp cis pm fr0 ds1 q := Fp_congr cis pm fr0 e0
  have hF1 : Fp cis pm fr0 ds1 (q + 1) = putf (Cp cis pm q).dst d (Fp cis pm fr0 ds q) := by simp only [Fp, e1, hF]
  rw [← hF1] at hK
  obtain ⟨q', ds', k1, k2, k3, k4, k5, k6⟩ := ext hg _ (q + 1) ds1 rfl (by omega) hK
  have d0 : ∀ p, p < q → ds' p = ds p := fun p hp => by rw [k3 p (by omega), ← e0 p hp]
  have d1 : ds' q = d := by rw [k3 q (by omega), e1]
  refine ⟨q', ds', hrel, by rw [put_size]; exact hi.size, (hi.defers.mono hle).same (put_defers ..), fun b hb => hle.dd b (hi.sub b hb), by simpa using hi.lsize, closed_set hi.closed hi.lsize hr, k2, ?_, ?_, ?_, ?_, ?_, k5, k6⟩
  · intro p' hp' h
    rw [getD_set hixl] at h
    split at h
    · rename_i he; rw [hinj p' hp' he]; omega
    · have := hi.ev p' hp' h; omega
  · intro p' hp' h t ht
    rw [put_getD hdl]
    by_cases hpp : p' = q
    · subst hpp; rw [if_pos ht, d1]; exact hv
    · rw [if_neg (fun h2 => (hg.w (p := q) (q := p') hq (by omega) (fun e => hpp e.symm) h2).1 ht)]
      rw [getD_set hixl, if_neg (fun e => hpp (hinj p' (by omega) e))] at h
      have hlt := hi.ev p' (by omega) h
      rw [d0 p' hlt]
      exact (hi.m1 p' hlt h t ht).mono hle
  · intro t h
    rw [put_getD hdl]
    have hne : (Cp cis pm q).dst ≠ some t := h q (by omega) (by rw [getD_set hixl, if_pos rfl])
    rw [if_neg hne]
    refine (hi.m2 t fun p' hp' h' => h p' (by omega) ?_).mono hle
    rw [getD_set hixl]
    split
    · rfl
    · exact h'
  · intro p' hp' h
    rw [getD_set hixl] at h
    split at h
    · cases h
    · rename_i hne
      by_cases hlt : p' < q
      · have hf := hi.fact p' hlt h
        have hpn' : p' < ops.size := by omega
        rw [d0 p' hlt, ← Fp_congr cis pm fr0 (p := p') (ds := ds) (ds' := ds') (fun p'' hp'' => (d0 p'' (by omega)).symm)]
        rcases hg.piv2 p' q _ _ _ (hg.ix hpn').1 (hg.ix hq).1 (hg.ix hpn').2.2 hpv hlt with hin | hre | ⟨hm, hds, hun⟩
        · exact hf.indep hin
        · have := hi.closed.ready hre hr
          rw [h] at this; cases this
        · have hfc := hchk _ hm
          obtain ⟨t0, ht0⟩ := Option.isSome_iff_exists.1 hds
          have e2 : getd (Fp cis pm fr0 ds q) (Cp cis pm p').dst = ds p' := by
            rw [ht0]; exact get_Fp_in hg (by omega) hlt ht0
          rw [e2] at hfc
          refine hfc.congr fun t ht => get_Fp_same (by omega) fun p2 h1 h2 hd2 => ?_
          have hp2 : p2 < ops.size := by omega
          exact hun p2 _ _ t h1 h2 (hg.ix hp2).1 (hg.ix hp2).2.2 hd2 ht
      · exact (k4 p' (by have : p' ≠ q := fun e => hne (by rw [e]); omega) hp').2
  · intro p' hp' h
    rw [getD_set hixl]
    split
    · rfl
    · rename_i hne
      by_cases hlt : p' < q
      · exact hi.pivd p' hlt h
      · have := (k4 p' (by have : p' ≠ q := fun e => hne (by rw [e]); omega) hp').1
        rw [h] at this; cases this

theorem Inv.whole {K : St → Prop} {c : Cfg} {a : Act} {w : World} {L : Array Bool} {q : Nat} {ds : Nat → D} {S : List O} {tk : Tks} (hi : Inv E B w0 nt D0 ops cis pm fr0 K c a w L q ds S tk) (hg : DGood ops cis pm)
    (hall : ∀ j, j < ops.size → L.getD j false = true) : ∃ st', Rel E B w0 nt D0 c st' a w ∧ K st' := by
  have hqn : q = ops.size := by
    rcases Nat.lt_or_ge q ops.size with h | h
    · have := hi.ev q h (hall _ (hg.ix h).2.1); omega
    · have := hi.qn; omega
  subst hqn
  have hres := hi.res
  rw [List.drop_of_length_le (by rw [lp, List.length_map, hg.npm]; exact Nat.le_refl _)] at hres
  refine ⟨⟨Fp cis pm fr0 ds ops.size, S, tk⟩, ⟨hi.rel, fun t => ?_, hi.size, hi.defers, hi.sub⟩, hres⟩
  by_cases hw : ∃ p', p' < ops.size ∧ (Cp cis pm p').dst = some t
  · obtain ⟨p', h1, h2⟩ := hw
    show V c _ (get (Fp cis pm fr0 ds ops.size) t)
    rw [get_Fp_in hg (Nat.le_refl _) h1 h2]
    exact hi.m1 p' h1 (hall _ (hg.ix h1).2.1) t h2
  · show V c _ (get (Fp cis pm fr0 ds ops.size) t)
    rw [get_Fp_out fun p' hp' hd => hw ⟨p', hp', hd⟩]
    exact hi.m2 t fun p' hp' _ hd => hw ⟨p', hp', hd⟩

theorem all_of_ready {L : Array Bool} (hg : DGood ops cis pm) (hL : L.size = ops.size) (hr : Region.ready .any ops L = []) : ∀ j, j < ops.size → L.getD j false = true := by
  intro j
  induction j using Nat.strongRecOn with
  | _ j ih =>
    intro hj
    cases hb : L.getD j false with
    | true => rfl
    | false =>
      exfalso
      have ho : ops[j]? = some (ops[j]'hj) := Array.getElem?_eq_getElem hj
      have : j ∈ Region.ready .any ops L := mem_ready.2 ⟨by
        have hl : L[j]? = some (L[j]'(by omega)) := Array.getElem?_eq_getElem _
        rw [Array.getD_eq_getD_getElem?, hl] at hb ⊢
        exact hb, _, ho, fun e he hbn => ih e.on (hg.edges j _ ho e he hbn) (by have := hg.edges j _ ho e he hbn; omega)⟩
      rw [hr] at this
      cases this

theorem cnt_set : ∀ (l : List Bool) (i : Nat), l[i]? = some false → (l.set i true).countP (· == false) + 1 = l.countP (· == false)
  | [], i, h => by simp at h
  | b :: l, 0, h => by simp at h; subst h; simp
  | b :: l, i + 1, h => by
    have := cnt_set l i (by simpa using h)
    simp only [List.set_cons_succ, List.countP_cons]
    omega

theorem count_set {L : Array Bool} {i : Nat} (hi : i < L.size) (h : L.getD i false = false) : (L.setIfInBounds i true).toList.countP (· == false) + 1 = L.toList.countP (· == false) := by
  rw [Array.toList_setIfInBounds]
  refine cnt_set _ i ?_
  rw [Array.getElem?_toList]
  rw [Array.getD_eq_getD_getElem?, Array.getElem?_eq_getElem hi] at h
  rw [Array.getElem?_eq_getElem hi]
  simpa using h

theorem all_of_count {L : Array Bool} (h : L.toList.countP (· == false) = 0) {j : Nat} (hj : j < L.size) : L.getD j false = true := by
  cases hb : L.getD j false with
  | true => rfl
  | false =>
    have := count_set hj hb
    omega

theorem any_sound (hg : DGood ops cis pm) (hcc : cCIs E.P ops nt ops.toList = some cis) {K : St → Prop} {Q : Exit → Act → World → Prop} {c0 : Cfg} (hQ : ∀ c a w st', c0.Le c → Rel E B w0 nt D0 c st' a w → K st' → Q .normal a w) :
    ∀ (fuel : Nat) (c : Cfg) (a : Act) (w : World) (L : Array Bool) (q : Nat) (ds : Nat → D) (S : List O) (tk : Tks), c0.Le c → Inv E B w0 nt D0 ops cis pm fr0 K c a w L q ds S tk → L.toList.countP (· == false) = fuel → wpAnyIn (FW ro) rm E.P .any ops Q fuel L a w
  | 0, c, a, w, L, q, ds, S, tk, h0, hi, hf => by
    have hall : ∀ j, j < ops.size → L.getD j false = true := fun j hj => all_of_count hf (by rw [hi.lsize]; exact hj)
    obtain ⟨st', h1, h2⟩ := hi.whole hg hall
    refine ⟨?_, hQ c a w st' h0 h1 h2⟩
    cases hr : Region.ready .any ops L with
    | nil => rfl
    | cons j r =>
      have hj : j ∈ Region.ready .any ops L := by rw [hr]; simp
      obtain ⟨k1, o, k2, _⟩ := mem_ready.1 hj
      have hjs : j < ops.size := (Array.getElem?_eq_some_iff.1 k2).1
      have := hall j hjs
      have hl : L[j]? = some (L[j]'(by rw [hi.lsize]; exact hjs)) := Array.getElem?_eq_getElem _
      rw [Array.getD_eq_getD_getElem?, hl] at this k1
      simp only [Option.getD_some] at this k1
      rw [this] at k1; cases k1
  | fuel + 1, c, a, w, L, q, ds, S, tk, h0, hi, hf => by
    refine ⟨fun hr => ?_, fun i hri => ?_⟩
    · obtain ⟨st', h1, h2⟩ := hi.whole hg (all_of_ready hg hi.lsize hr)
      exact hQ c a w st' h0 h1 h2
    · obtain ⟨k1, o, k2, _⟩ := mem_ready.1 hri
      have his : i < ops.size := (Array.getElem?_eq_some_iff.1 k2).1
      have hiL : i < L.size := by rw [hi.lsize]; exact his
      have hLf : L.getD i false = false := by
        have hl : L[i]? = some (L[i]'hiL) := Array.getElem?_eq_getElem _
        rw [Array.getD_eq_getD_getElem?, hl] at k1 ⊢
        exact k1
      obtain ⟨p, hp⟩ := hg.cover i his
      have hps : p < ops.size := by rw [← hg.npm]; exact (List.getElem?_eq_some_iff.1 hp).1
      have hix : ixp pm p = i := by
        have := (hg.ix hps).1
        rw [hp] at this; exact (Option.some.inj this).symm
      subst hix
      have hcnt : (L.setIfInBounds (ixp pm p) true).toList.countP (· == false) = fuel := by have := count_set hiL hLf; omega
      have hci := (cCIs_spec hcc).2 (ixp pm p) o (Cp cis pm p) (by simpa using k2) (hg.ix hps).2.2
      obtain ⟨_, hdst, hdlt, _⟩ := cCI_spec hci
      have hdlt' : ∀ d, (Cp cis pm p).dst = some d → d < nt := fun d hd => hdlt d (by rw [← hdst]; exact hd)
      have hple : p ≤ q := by
        rcases Nat.lt_or_ge q p with hlt | hge
        · exfalso
          rcases hi.hd with hq | hpv
          · omega
          · have hqs : q < ops.size := by omega
            have hre := hg.piv1 q p _ _ (hg.ix hqs).1 (hg.ix hps).1 hpv hlt
            have := hi.ev q hqs (hi.closed.ready hre hri)
            omega
        · exact hge
      have hlooks := hi.looks hg hps hple hri hLf
      have hcong : ∀ (S : List O) (tk : Tks) (K : D → List O → Tks → Prop), gD E (Cp cis pm p) ((Cp cis pm p).looks.map fun t => (t, get (Fp cis pm fr0 ds p) t)) S tk K = gD E (Cp cis pm p) (Fp cis pm fr0 ds p) S tk K := fun S tk K =>
        gD_congr fun t ht => get_restrict _ _ ht
      unfold wpOpIn
      rw [k2]
      simp only
      rcases Nat.lt_or_ge p q with hpq | hpq
      · have hfact := hi.fact p hpq hLf
        unfold Fact at hfact
        rw [← hcong] at hfact
        have hs := gD_sound (ro := ro) (rm := rm) hci hi.rel hlooks hfact Q (wpAnyIn (FW ro) rm E.P .any ops Q fuel (L.setIfInBounds (ixp pm p) true)) (fun c' v d S' tk' w' g1 g2 g3 g4 => by
          obtain ⟨rfl, rfl, rfl⟩ := g4
          rw [← hdst]
          exact any_sound hg hcc hQ fuel c' _ w' _ q ds S' tk' (h0.trans g1) (hi.quiet hg hpq hri hLf hdlt' g1 g2 g3) hcnt)
        split
        · rename_i hw; rw [if_pos hw] at hs; exact hs
        · rename_i hw; rw [if_neg hw] at hs; exact hs
      · have hpe : p = q := by omega
        subst hpe
        have hpv : pvp ops cis pm p = true := by
          rcases hi.hd with hq | hpv
          · omega
          · exact hpv
        have hres := hi.res
        rw [lp_drop hg hps, hpv] at hres
        simp only [if_true, aqs] at hres
        rw [← hcong] at hres
        have hs := gD_sound (ro := ro) (rm := rm) hci hi.rel hlooks hres Q (wpAnyIn (FW ro) rm E.P .any ops Q fuel (L.setIfInBounds (ixp pm p) true)) (fun c' v d S' tk' w' g1 g2 g3 g4 => by
          obtain ⟨q', ds', hi'⟩ := hi.pivot hg hps hpv hri hLf hdlt' g1 g2 g3 g4
          rw [← hdst]
          exact any_sound hg hcc hQ fuel c' _ w' _ q' ds' S' tk' (h0.trans g1) hi' hcnt)
        split
        · rename_i hw; rw [if_pos hw] at hs; exact hs
        · rename_i hw; rw [if_neg hw] at hs; exact hs

end

section
variable {E : Env} {B : Nat} {w0 : World} {nt : Nat} {D0 : List Nat} {ro : Option Nat} {rm : Nat}

theorem rep_getD (n j : Nat) : (Array.replicate n false).getD j false = false := by
  rw [Array.getD_eq_getD_getElem?, Array.getElem?_replicate]
  split <;> rfl

theorem rep_count (n : Nat) : (Array.replicate n false).toList.countP (· == false) = n := by
  rw [Array.toList_replicate]
  induction n with
  | zero => rfl
  | succ n ih => rw [List.replicate_succ, List.countP_cons, ih]; simp

theorem draw_sound {id : Nat} {ops : Array Oper} {cis : List CI} {l : List (CI × Option (List CI))} (hcc : cCIs E.P ops nt ops.toList = some cis) (hd : cDraw ops cis = some l) {c : Cfg} {a : Act} {w : World} {st : St} (hr : Rel E B w0 nt D0 c st a w)
    {K : St → Prop} (h : aqs E l st K) {Q : Exit → Act → World → Prop} (hQ : ∀ c' a' w' st', c.Le c' → Rel E B w0 nt D0 c' st' a' w' → K st' → Q .normal a' w') : (Code.region id ops true).wpIn (FW ro) rm E.P Q a w := by
  simp only [cDraw] at hd
  split at hd
  · rename_i hok
    obtain rfl := Option.some.inj hd
    have hg := drawOK_good hok
    refine wpIn_region_any E.hmix ?_
    obtain ⟨q, ds, k1, k2, k3, k4, k5, k6⟩ := ext (E := E) (fr0 := st.fr) (S := st.S) (tk := st.tk) (K := K) hg _ 0 (fun _ => .top) rfl (Nat.zero_le _) (by simpa [Fp, lp] using h)
    have hrel : RelE E B w0 c st.S st.tk { w with drawn := w.drawn + 1 } := ⟨hr.r.s.drawn _, hr.r.g⟩
    refine any_sound hg hcc (fr0 := st.fr) (c0 := c) hQ ops.size c a _ _ q ds st.S st.tk (Cfg.Le.refl c) ⟨hrel, hr.n, hr.d, hr.sub, by simp, ?_, k2, ?_, ?_, ?_, ?_, ?_, k5, k6⟩ (rep_count _)
    · intro j o hj; rw [rep_getD] at hj; cases hj
    · intro p hp hl; rw [rep_getD] at hl; cases hl
    · intro p hp hl; rw [rep_getD] at hl; cases hl
    · intro t _; exact hr.f t
    · intro p hp _; exact (k4 p (Nat.zero_le _) hp).2
    · intro p hp hpv; have := (k4 p (Nat.zero_le _) hp).1; rw [hpv] at this; cases this
  · cases hd

end
end Go.KL
