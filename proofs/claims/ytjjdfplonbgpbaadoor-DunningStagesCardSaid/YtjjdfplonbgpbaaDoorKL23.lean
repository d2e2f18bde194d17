/- The walk by reckoning: the small code asks, in a form that a check of definitions unfolds. -/
import Derived.Test.YtjjdfplonbgpbaaDoorKL22
set_option linter.unusedVariables false
set_option linter.unusedSimpArgs false
namespace Go.KL
open Go Go.RowKit

/-- what a slot holds in a walk: a value, or where in an object of the walk's own it points -/
inductive FD where
  | d (x : D)
  | lp (k off : Nat)

def FD.to (n : Nat) : FD → D
  | .d x => x
  | .lp k o => .po (n + k) o

abbrev Fr := List (Nat × FD)

def fget : Fr → Nat → FD
  | [], _ => .d .top
  | (t, d) :: r, i => match Nat.beq t i with
    | true => d
    | false => fget r i

def frD (n : Nat) : Fr → List (Nat × D)
  | [] => []
  | (t, d) :: r => (t, d.to n) :: frD n r

theorem get_frD {n : Nat} : ∀ (fr : Fr) (t : Nat), KL.get (frD n fr) t = (fget fr t).to n
  | [], t => rfl
  | (u, d) :: r, t => by
    simp only [frD, KL.get, fget]
    cases h : Nat.beq u t with
    | true => rw [if_pos (Nat.eq_of_beq_eq_true h)]
    | false => rw [if_neg (Nat.ne_of_beq_eq_false h)]; exact get_frD r t

def fev (E : Env) (fr : Fr) : Opd → FD
  | .t i => fget fr i
  | .k d => .d d
  | .g g => match E.G g with
    | some e => .d (.pe e 0)
    | none => .d .top

theorem fev_to {E : Env} {n : Nat} {fr : Fr} (x : Opd) : (fev E fr x).to n = ev E (frD n fr) x := by
  cases x with
  | t i => exact (get_frD fr i).symm
  | k d => rfl
  | g g => cases h : E.G g <;> simp only [fev, ev, h, FD.to]

/-! ## making values plain -/

def bs (b : Bool) (A B : Prop) : Prop := match b with
  | true => A
  | false => B

theorem bs_i {b : Bool} {A B : Prop} (ht : b = true → A) (hf : b = false → B) : bs b A B := by cases b <;> simp_all [bs]

def fzL {α : Type} : List α → (List α → Prop) → Prop
  | [], K => K []
  | d :: l, K => fzL l fun l => K (d :: l)
theorem fzL_eq {α : Type} : ∀ (l : List α) (K : List α → Prop), fzL l K = K l
  | [], K => rfl
  | d :: l, K => fzL_eq l _
theorem fzL_go {α : Type} {l : List α} {K : List α → Prop} (h : K l) : fzL l K := (fzL_eq l K).symm ▸ h

/-- a list of lists -/
def fzLL : List (List D) → (List (List D) → Prop) → Prop
  | [], K => K []
  | d :: l, K => fzL d fun d => fzLL l fun l => K (d :: l)
theorem fzLL_eq : ∀ (l : List (List D)) (K : List (List D) → Prop), fzLL l K = K l
  | [], K => rfl
  | d :: l, K => by simp only [fzLL, fzL_eq, fzLL_eq l]

def fzD (d : D) (K : D → Prop) : Prop := match d with
  | .int k n => K (.int k n)
  | .bool b => bs b (K (.bool true)) (K (.bool false))
  | .str s => K (.str s)
  | .agg cs => fzL cs fun cs => K (.agg cs)
  | .tup cs => fzL cs fun cs => K (.tup cs)
  | .sl es => K (.sl es)
  | .nilsl => K .nilsl
  | .full es => K (.full es)
  | .gsl es t => K (.gsl es t)
  | .osl id off n sz => K (.osl id off n sz)
  | .pe e off => K (.pe e off)
  | .po id off => K (.po id off)
  | .nilp => K .nilp
  | .fn f cs => fzL cs fun cs => K (.fn f cs)
  | .nilfn => K .nilfn
  | .map id => K (.map id)
  | .nilmap => K .nilmap
  | .vec id n sz => K (.vec id n sz)
  | .pv id n i j => K (.pv id n i j)
  | .yld id => K (.yld id)
  | .bm f fs cs => fzL fs fun fs => fzL cs fun cs => K (.bm f fs cs)
  | .und => K .und
  | .top => K .top

theorem fzD_eq (d : D) (K : D → Prop) : fzD d K ↔ K d := by
  cases d with
  | bool b => cases b <;> exact Iff.rfl
  | agg cs => simp only [fzD, fzL_eq]
  | tup cs => simp only [fzD, fzL_eq]
  | fn f cs => simp only [fzD, fzL_eq]
  | bm f fs cs => simp only [fzD, fzL_eq]
  | _ => exact Iff.rfl
theorem fzD_go {d : D} {K : D → Prop} (h : K d) : fzD d K := (fzD_eq d K).2 h

def fzF (f : FD) (K : FD → Prop) : Prop := match f with
  | .d x => fzD x fun x => K (.d x)
  | .lp k o => K (.lp k o)
theorem fzF_eq (d : FD) (K : FD → Prop) : fzF d K ↔ K d := by
  cases d with
  | d x => exact fzD_eq x fun x => K (.d x)
  | lp k o => exact Iff.rfl

/-- to a value -/
def fzT (n : Nat) (f : FD) (K : D → Prop) : Prop := match f with
  | .d x => K x
  | .lp k o => K (.po (n + k) o)
theorem fzT_eq (n : Nat) (d : FD) (K : D → Prop) : fzT n d K ↔ K (d.to n) := by cases d <;> exact Iff.rfl

def fzN (n : Nat) (K : Nat → Prop) : Prop := match n with
  | 0 => K 0 | 1 => K 1 | 2 => K 2 | 3 => K 3 | 4 => K 4 | 5 => K 5 | 6 => K 6 | 7 => K 7 | 8 => K 8 | 9 => K 9 | 10 => K 10 | 11 => K 11 | 12 => K 12 | 13 => K 13 | 14 => K 14 | 15 => K 15 | 16 => K 16 | 17 => K 17 | 18 => K 18 | 19 => K 19 | 20 => K 20 | 21 => K 21 | 22 => K 22 | 23 => K 23
  | n => K n
theorem fzN_eq (n : Nat) (K : Nat → Prop) : fzN n K ↔ K n := by
  unfold fzN; split <;> exact Iff.rfl
/-- the length of the walk's own objects; stays as it is where these are not known one by one -/
def fzK : List O → Nat → (Nat → Prop) → Prop
  | [], n, K => fzN n K
  | _ :: l, n, K => fzK l (n + 1) K
theorem fzK_eq : ∀ (l : List O) (n : Nat) (K : Nat → Prop), fzK l n K ↔ K (n + l.length)
  | [], n, K => fzN_eq n K
  | _ :: l, n, K => by rw [fzK, fzK_eq l, List.length_cons, show n + (l.length + 1) = n + 1 + l.length by omega]
theorem fzK_eq0 (l : List O) (K : Nat → Prop) : fzK l 0 K ↔ K l.length := by rw [fzK_eq, Nat.zero_add]
theorem fzK_go {l : List O} {K : Nat → Prop} (h : K l.length) : fzK l 0 K := (fzK_eq0 l K).2 h

def fzEvs (E : Env) (n0 : Nat) (fr : Fr) : List Opd → (List D → Prop) → Prop
  | [], K => K []
  | x :: r, K => fzT n0 (fev E fr x) fun d => fzEvs E n0 fr r fun ds => K (d :: ds)
theorem fzEvs_eq {E : Env} {n0 : Nat} {fr : Fr} : ∀ (xs : List Opd) (K : List D → Prop), fzEvs E n0 fr xs K ↔ K (evs E (frD n0 fr) xs)
  | [], K => Iff.rfl
  | x :: r, K => by simp only [fzEvs, fzT_eq, fzEvs_eq r, evs, fev_to]

def pK (o : Option D) (K : D → Prop) : Prop := match o with
  | some d => K d
  | none => False
theorem pK_i {o : Option D} {d : D} {K : D → Prop} (h : o = some d) (hk : K d) : pK o K := by subst h; exact hk

/-! ## steps -/

abbrev FK := Fr → List O → List O → Tks → Tks → Prop

/-- what goes on behind a step that may change anything -/
def kAll (n0 m0 : Nat) (K : FD → List O → List O → Tks → Tks → Prop) : D → List O → Tks → Prop := fun d S' tk' =>
  ∃ S J T TK, S' = S ++ J ∧ tk' = T ++ TK ∧ S.length = n0 ∧ T.length = m0 ∧ fzD d fun d => K (.d d) S J T TK

structure CK (E : Env) (n0 m0 : Nat) (f : FuncId) (ds : List D) (S J : List O) (T TK : Tks) (K : FD → List O → List O → Tks → Tks → Prop) : Prop where
  h : ACalls E f ds (S ++ J) (T ++ TK) (kAll n0 m0 K)
structure XK (E : Env) (f : FuncId) (ds : List D) (K : D → Prop) : Prop where
  h : ∃ d, AExt E f ds d ∧ fzD d K
structure CQ (E : Env) (f : FuncId) (ds : List D) (S J : List O) (T TK : Tks) (K : D → Prop) : Prop where
  h : ∃ d, ACalls E f ds (S ++ J) (T ++ TK) (fun r S' tk' => r = d ∧ S' = S ++ J ∧ tk' = T ++ TK) ∧ fzD d K
/-- a call of a loop's round -/
structure YK (E : Env) (n0 m0 : Nat) (id : Nat) (ds : List D) (S J : List O) (T TK : Tks) (K : FD → List O → List O → Tks → Tks → Prop) : Prop where
  h : AYields E id ds (S ++ J) (T ++ TK) (kAll n0 m0 K)
/-- any other step -/
structure GK (E : Env) (n0 m0 : Nat) (i : Ins) (fr : Fr) (S J : List O) (T TK : Tks) (K : FD → List O → List O → Tks → Tks → Prop) : Prop where
  h : aop E i (frD n0 fr) (S ++ J) (T ++ TK) (kAll n0 m0 K)

def stOK (v : D) (n o l : Nat) : Bool := v.var && allLeaf v.cs && Nat.beq v.cs.length n && Nat.ble (o + n) l

/-- what a pure step answers, made plain -/
def fzP (i : Ins) (d : D) (K : D → Prop) : Prop := match i with
  | .buildS _ _ _ _ _ => match d with
    | .sl es => fzLL es fun es => K (.sl es)
    | d => K d
  | _ => fzD d K
theorem fzP_eq (i : Ins) (d : D) (K : D → Prop) : fzP i d K ↔ K d := by
  unfold fzP; split
  · split
    · simp only [fzLL_eq]
    · exact Iff.rfl
  · exact fzD_eq d K

def ixSD (x i : D) : Option D := match i, x with
  | .int _ n, .str s => if 0 ≤ n then match s[n.toNat]? with
      | some b => some (.int .u8 b.toNat)
      | none => none
    else none
  | _, _ => none
def ixAD (len sz : Nat) (ag : Bool) (x i : D) : Option D := match i, x with
  | .int _ n, .agg cs => if 0 ≤ n ∧ n < len then rdC cs (n.toNat * sz) sz ag else none
  | _, _ => none
def slSD (x : D) (lo hi : Option D) : Option D := match x with
  | .str s => strSl s lo hi
  | _ => none
def fzO (E : Env) (n0 : Nat) (fr : Fr) : Option Opd → (Option D → Prop) → Prop
  | none, K => K none
  | some x, K => fzT n0 (fev E fr x) fun d => K (some d)
theorem fzO_eq {E : Env} {n0 : Nat} {fr : Fr} (x : Option Opd) (K : Option D → Prop) : fzO E n0 fr x K ↔ K (x.map (ev E (frD n0 fr))) := by
  cases x with
  | none => exact Iff.rfl
  | some x => simp only [fzO, fzT_eq, fev_to, Option.map]

def fzPP (E : Env) (n0 : Nat) (fr : Fr) : List (Nat × Nat × Opd) → (List (Nat × Nat × D) → Prop) → Prop
  | [], K => K []
  | (o, s, x) :: r, K => fzT n0 (fev E fr x) fun d => fzPP E n0 fr r fun ps => K ((o, s, d) :: ps)
theorem fzPP_eq {E : Env} {n0 : Nat} {fr : Fr} : ∀ (xs : List (Nat × Nat × Opd)) (K : List (Nat × Nat × D) → Prop), fzPP E n0 fr xs K ↔ K (evP E (frD n0 fr) xs)
  | [], K => Iff.rfl
  | (o, s, x) :: r, K => by simp only [fzPP, fzT_eq, fzPP_eq r, evP, fev_to]
def fzQQ (E : Env) (n0 : Nat) (fr : Fr) : List (Nat × Opd) → (List (Nat × D) → Prop) → Prop
  | [], K => K []
  | (o, x) :: r, K => fzT n0 (fev E fr x) fun d => fzQQ E n0 fr r fun ps => K ((o, d) :: ps)
theorem fzQQ_eq {E : Env} {n0 : Nat} {fr : Fr} : ∀ (xs : List (Nat × Opd)) (K : List (Nat × D) → Prop), fzQQ E n0 fr xs K ↔ K (evQ E (frD n0 fr) xs)
  | [], K => Iff.rfl
  | (o, x) :: r, K => by simp only [fzQQ, fzT_eq, fzQQ_eq r, evQ, fev_to]

def mmMax : D → List D → Option D
  | d, [] => some d
  | .int k a, .int k' b :: r => if k = k' then mmMax (.int k (max a b)) r else none
  | _, _ => none
def mmMin : D → List D → Option D
  | d, [] => some d
  | .int k a, .int k' b :: r => if k = k' then mmMin (.int k (min a b)) r else none
  | _, _ => none
def mmF (mx : Bool) (ds : List D) : Option D := match mx, ds with
  | true, d :: r => mmMax d r
  | false, d :: r => mmMin d r
  | _, [] => none
theorem mmMax_eq : ∀ (r : List D) (d : D), mmMax d r = mmD true d r
  | [], d => by cases d <;> rfl
  | x :: r, d => by
    cases d <;> cases x <;> first | rfl | skip
    rename_i k a k' b
    simp only [mmMax, mmD, if_true]
    split
    · rw [mmMax_eq r, show max a b = if b > a then b else a from by split <;> omega]
    · rfl
theorem mmMin_eq : ∀ (r : List D) (d : D), mmMin d r = mmD false d r
  | [], d => by cases d <;> rfl
  | x :: r, d => by
    cases d <;> cases x <;> first | rfl | skip
    rename_i k a k' b
    simp only [mmMin, mmD, Bool.false_eq_true, if_false]
    split
    · rw [mmMin_eq r, show min a b = if b < a then b else a from by split <;> omega]
    · rfl

def fpure (E : Env) (n0 : Nat) (i : Ins) (fr : Fr) (S J : List O) (K : FD → Prop) : Prop :=
  match i with
  | .mv x => fzF (fev E fr x) K
  | .fa off x => match fev E fr x with
    | .lp k o => fzN (o + off) fun o => K (.lp k o)
    | .d y => pK (ptrAdd off y) fun d => K (.d d)
  | .iaA len sz x i => match fev E fr x, fev E fr i with
    | .lp k o, .d (.int _ n) => pK (if 0 ≤ n ∧ n < len then some (.int .i64 n) else none) fun _ => fzN (o + n.toNat * sz) fun o => K (.lp k o)
    | x, i => pK (match i.to n0 with
      | .int _ n => if 0 ≤ n ∧ n < len then ptrAdd (n.toNat * sz) (x.to n0) else none
      | _ => none) fun d => fzD d fun d => K (.d d)
  | .nilck x => match fev E fr x with
    | .lp k o => K (.lp k o)
    | .d y => pK (pv E (frD n0 fr) (S ++ J) (.nilck x)) fun d => fzD d fun d => K (.d d)
  | .ld n ag x => match fev E fr x with
    | .lp k o => match J[k]? with
      | some (.arr cs) => pK (rdC cs o n ag) fun d => fzD d fun d => K (.d d)
      | _ => False
    | .d y => pK (pv E (frD n0 fr) (S ++ J) (.ld n ag x)) fun d => fzD d fun d => K (.d d)
  | .ia sz x i => fzT n0 (fev E fr x) fun x => fzT n0 (fev E fr i) fun i => pK (iaD sz x i) fun d => fzD d fun d => K (.d d)
  | .bin op q x y => fzT n0 (fev E fr x) fun x => fzT n0 (fev E fr y) fun y => pK (binD op q x y) fun d => fzD d fun d => K (.d d)
  | .ixS x i => fzT n0 (fev E fr x) fun x => fzT n0 (fev E fr i) fun i => pK (ixSD x i) fun d => fzD d fun d => K (.d d)
  | .ixA len sz ag x i => fzT n0 (fev E fr x) fun x => fzT n0 (fev E fr i) fun i => pK (ixAD len sz ag x i) fun d => fzD d fun d => K (.d d)
  | .slS x lo hi => fzT n0 (fev E fr x) fun x => fzO E n0 fr lo fun lo => fzO E n0 fr hi fun hi => pK (slSD x lo hi) fun d => fzD d fun d => K (.d d)
  | .slL sz x lo hi mx => fzT n0 (fev E fr x) fun x => fzO E n0 fr lo fun lo => fzO E n0 fr hi fun hi => fzO E n0 fr mx fun mx => pK (slD sz x lo hi mx) fun d => fzD d fun d => K (.d d)
  | .len q x => fzT n0 (fev E fr x) fun x => pK ((lenD (S ++ J) q x).map (.int .i64)) fun d => fzD d fun d => K (.d d)
  | .build zs parts => fzPP E n0 fr parts fun ps => pK ((fillD zs ps).map .agg) fun d => fzD d fun d => K (.d d)
  | .buildS n sz zs parts e => fzQQ E n0 fr parts fun ps => pK ((fillS sz (List.replicate n zs) ps).map mkS) fun d => fzP (.buildS n sz zs parts e) d fun d => K (.d d)
  | .mkfn f caps => fzEvs E n0 fr caps fun ds => K (.d (.fn f ds))
  | .mkbm f fs caps => fzEvs E n0 fr fs fun ds => fzEvs E n0 fr caps fun es => K (.d (.bm f ds es))
  | .mget kt z ok x k => fzT n0 (fev E fr x) fun x => fzT n0 (fev E fr k) fun k => pK (mgD kt z ok (S ++ J) x k) fun d => fzD d fun d => K (.d d)
  | .ent x => fzT n0 (fev E fr x) fun x => pK (entD (S ++ J) x) fun d => fzD d fun d => K (.d d)
  | .mm mx xs => fzEvs E n0 fr xs fun ds => pK (mmF mx ds) fun d => K (.d d)
  | i => pK (pv E (frD n0 fr) (S ++ J) i) fun d => fzP i d fun d => K (.d d)

def fop (E : Env) (n0 m0 : Nat) (i : Ins) (fr : Fr) (S J : List O) (T TK : Tks) (K : FD → List O → List O → Tks → Tks → Prop) : Prop :=
  match i with
  | .alloc zs _ => fzK J 0 fun k => fzL (J ++ [.arr zs]) fun J => K (.lp k 0) S J T TK
  | .box x _ => fzT n0 (fev E fr x) fun d => bs (d.var && allLeaf d.cs) (fzK J 0 fun k => fzL (J ++ [.arr d.cs]) fun J => K (.lp k 0) S J T TK) False
  | .st n x v => match fev E fr x with
    | .lp k o => match J[k]? with
      | some (.arr cs) => fzT n0 (fev E fr v) fun d => bs (stOK d n o cs.length) (fzL (setC cs o d.cs) fun cs => fzL (J.set k (.arr cs)) fun J => K (.d .top) S J T TK) False
      | _ => False
    | .d _ => GK E n0 m0 (.st n x v) fr S J T TK K
  | .app T' e sz bytes zs x y => GK E n0 m0 (.app T' e sz bytes zs x y) fr S J T TK K
  | .call f args => fzEvs E n0 fr args fun ds => CK E n0 m0 f ds S J T TK K
  | .callv x args => match fev E fr x with
    | .d (.fn f caps) => fzEvs E n0 fr args fun ds => fzL (ds ++ caps) fun ds => bs (callOK E.P f) (CK E n0 m0 f ds S J T TK K) False
    | .d (.bm f fs caps) => fzEvs E n0 fr args fun ds => fzL (fs ++ ds ++ caps) fun ds => bs (callOK E.P f) (CK E n0 m0 f ds S J T TK K) False
    | .d (.yld id) => fzEvs E n0 fr args fun ds => YK E n0 m0 id ds S J T TK K
    | _ => False
  | .extn f args => fzEvs E n0 fr args fun ds => XK E f ds fun d => K (.d d) S J T TK
  | .mkmap kt => fzK J 0 fun k => fzL (J ++ [.map kt [] 0]) fun J => K (.d (.map (n0 + k))) S J T TK
  | .mset kt x k v => GK E n0 m0 (.mset kt x k v) fr S J T TK K
  | .ment kt z x k => GK E n0 m0 (.ment kt z x k) fr S J T TK K
  | .mest x s v => GK E n0 m0 (.mest x s v) fr S J T TK K
  | .mdel kt x k => GK E n0 m0 (.mdel kt x k) fr S J T TK K
  | .rngM x => GK E n0 m0 (.rngM x) fr S J T TK K
  | .nxt x => GK E n0 m0 (.nxt x) fr S J T TK K
  | .mksl e sz bytes zs l c => GK E n0 m0 (.mksl e sz bytes zs l c) fr S J T TK K
  | i => fpure E n0 i fr S J fun d => K d S J T TK

def fq (E : Env) (n0 : Nat) (i : Ins) (fr : Fr) (S J : List O) (T TK : Tks) (K : FD → Prop) : Prop :=
  match i with
  | .call f args => fzEvs E n0 fr args fun ds => CQ E f ds S J T TK fun d => K (.d d)
  | .callv x args => match fev E fr x with
    | .d (.fn f caps) => fzEvs E n0 fr args fun ds => fzL (ds ++ caps) fun ds => bs (callOK E.P f) (CQ E f ds S J T TK fun d => K (.d d)) False
    | .d (.bm f fs caps) => fzEvs E n0 fr args fun ds => fzL (fs ++ ds ++ caps) fun ds => bs (callOK E.P f) (CQ E f ds S J T TK fun d => K (.d d)) False
    | _ => False
  | .extn f args => fzEvs E n0 fr args fun ds => XK E f ds fun d => K (.d d)
  | .alloc _ _ | .box _ _ | .st _ _ _ | .app _ _ _ _ _ _ _ | .mkmap _ | .mksl _ _ _ _ _ _ => False
  | .mset _ _ _ _ | .ment _ _ _ _ | .mest _ _ _ | .mdel _ _ _ | .rngM _ | .nxt _ => False
  | i => fpure E n0 i fr S J K

/-- is a guard met? -/
def fgu (fr : Fr) (t : Nat) (b : Bool) (A B : Prop) : Prop := match fget fr t with
  | .d (.bool b') => match b', b with
    | true, true => A
    | false, false => A
    | true, false => B
    | false, true => B
  | .d .und => B
  | _ => False

def fgd (E : Env) (n0 m0 : Nat) (g : Option (Nat × Bool)) (i : Ins) (fr : Fr) (S J : List O) (T TK : Tks) (K : FD → List O → List O → Tks → Tks → Prop) : Prop :=
  match g with
  | none => fop E n0 m0 i fr S J T TK K
  | some (t, b) => fgu fr t b (fop E n0 m0 i fr S J T TK K) (K (.d .und) S J T TK)

def fgq (E : Env) (n0 : Nat) (g : Option (Nat × Bool)) (i : Ins) (fr : Fr) (S J : List O) (T TK : Tks) (K : FD → Prop) : Prop :=
  match g with
  | none => fq E n0 i fr S J T TK K
  | some (t, b) => fgu fr t b (fq E n0 i fr S J T TK K) (K (.d .und))

def fput (dst : Option Nat) (d : FD) (fr : Fr) (K : Fr → Prop) : Prop := match dst with
  | some t => K ((t, d) :: fr)
  | none => K fr

def fops (E : Env) (n0 m0 : Nat) : List CI → Fr → List O → List O → Tks → Tks → FK → Prop
  | [], fr, S, J, T, TK, K => K fr S J T TK
  | ⟨dst, g, i⟩ :: r, fr, S, J, T, TK, K => fgd E n0 m0 g i fr S J T TK fun d S J T TK => fput dst d fr fun fr => fops E n0 m0 r fr S J T TK K

/-- the same answer behind a change as ahead of it -/
structure EQK (d d' : FD) (X : Prop) : Prop where
  h : d = d' ∧ X
theorem eqk {d d' : FD} {X : Prop} (h : d = d') (x : X) : EQK d d' X := ⟨h, x⟩
def fgetd (fr : Fr) : Option Nat → FD
  | some t => fget fr t
  | none => .d .top
def fchks (E : Env) (n0 : Nat) : List CI → Fr → List O → List O → Tks → Tks → Prop → Prop
  | [], fr, S, J, T, TK, X => X
  | ⟨dst, g, i⟩ :: r, fr, S, J, T, TK, X => fgq E n0 g i fr S J T TK fun d => EQK d (fgetd fr dst) (fchks E n0 r fr S J T TK X)

def fqs (E : Env) (n0 m0 : Nat) : List (CI × Option (List CI)) → Fr → List O → List O → Tks → Tks → FK → Prop
  | [], fr, S, J, T, TK, K => K fr S J T TK
  | (⟨dst, g, i⟩, some rs) :: r, fr, S, J, T, TK, K => fgd E n0 m0 g i fr S J T TK fun d S J T TK => fchks E n0 rs fr S J T TK (fput dst d fr fun fr => fqs E n0 m0 r fr S J T TK K)
  | (⟨dst, g, i⟩, none) :: r, fr, S, J, T, TK, K => fgq E n0 g i fr S J T TK fun d => fput dst d fr fun fr => fqs E n0 m0 r fr S J T TK K

/-- a state -/
abbrev sT (n : Nat) (fr : Fr) (S J : List O) (T TK : Tks) : St := ⟨frD n fr, S ++ J, T ++ TK⟩

structure FLoop (E : Env) (n0 m0 : Nat) (W : Fr → List O → List O → Tks → Tks → (X → FK) → Prop) (fr : Fr) (S J : List O) (T TK : Tks) (Q : X → FK) : Prop where
  h : ∃ (I : Nat → FK) (n : Nat) (fr' : Fr) (S' J' : List O) (T' TK' : Tks), Shift E n0 m0 (sT n0 fr S J T TK) (sT n0 fr' S' J' T' TK') ∧ I n fr' S' J' T' TK' ∧
    ∀ n fr S J T TK, I n fr S J T TK → (S.length = n0 ∧ T.length = m0) ∧ ∃ R : X → FK, W fr S J T TK R ∧ (∀ fr S J T TK, R .nm fr S J T TK → ∃ n' fr' S' J' T' TK', n' < n ∧ Shift E n0 m0 (sT n0 fr S J T TK) (sT n0 fr' S' J' T' TK') ∧ I n' fr' S' J' T' TK') ∧
      (∀ id fr S J T TK, R (.ex id) fr S J T TK → Q (.ex id) fr S J T TK) ∧ (∀ fr S J T TK, R .rt fr S J T TK → Q .rt fr S J T TK)

/-- a loop over a function -/
structure FRf (E : Env) (n0 m0 : Nat) (f : Opd) (ps : List Nat) (asg bod : AC) (L : Array Nat × Code × Code) (fr : Fr) (S J : List O) (T TK : Tks) (Q : X → FK) : Prop where
  h : AWp E n0 m0 (.rfn f ps asg bod L) (sT n0 fr S J T TK) fun x st => ∃ fr S J T TK, st = sT n0 fr S J T TK ∧ S.length = n0 ∧ T.length = m0 ∧ Q x fr S J T TK

/-- a cut: what is known there, and what goes on from it -/
structure FCut (E : Env) (n0 m0 : Nat) (A B : Fr → List O → List O → Tks → Tks → (X → FK) → Prop) (fr : Fr) (S J : List O) (T TK : Tks) (Q : X → FK) : Prop where
  h : ∃ (I : FK) (R : X → FK), A fr S J T TK R ∧
    (∀ fr S J T TK, R .nm fr S J T TK → ∃ fr' S' J' T' TK', Shift E n0 m0 (sT n0 fr S J T TK) (sT n0 fr' S' J' T' TK') ∧ I fr' S' J' T' TK') ∧
    (∀ id fr S J T TK, R (.ex id) fr S J T TK → Q (.ex id) fr S J T TK) ∧ (∀ fr S J T TK, R .rt fr S J T TK → Q .rt fr S J T TK) ∧
    ∀ fr S J T TK, I fr S J T TK → (S.length = n0 ∧ T.length = m0) ∧ B fr S J T TK Q

def fWp (E : Env) (n0 m0 : Nat) : AC → Fr → List O → List O → Tks → Tks → (X → FK) → Prop
  | .skip, fr, S, J, T, TK, Q => Q .nm fr S J T TK
  | .rg l, fr, S, J, T, TK, Q => fops E n0 m0 l fr S J T TK (Q .nm)
  | .rd l, fr, S, J, T, TK, Q => fqs E n0 m0 l fr S J T TK (Q .nm)
  | .seq a b, fr, S, J, T, TK, Q => fWp E n0 m0 a fr S J T TK fun x fr S J T TK => match x with
    | .nm => fWp E n0 m0 b fr S J T TK Q
    | .ex id => Q (.ex id) fr S J T TK
    | .rt => Q .rt fr S J T TK
  | .cond c a b, fr, S, J, T, TK, Q => match fev E fr c with
    | .d (.bool true) => fWp E n0 m0 a fr S J T TK Q
    | .d (.bool false) => fWp E n0 m0 b fr S J T TK Q
    | _ => False
  | .block id a, fr, S, J, T, TK, Q => fWp E n0 m0 a fr S J T TK fun x fr S J T TK => match x with
    | .nm => Q .nm fr S J T TK
    | .ex id' => match Nat.beq id' id with
      | true => Q .nm fr S J T TK
      | false => Q (.ex id') fr S J T TK
    | .rt => Q .rt fr S J T TK
  | .loop a, fr, S, J, T, TK, Q => FLoop E n0 m0 (fWp E n0 m0 a) fr S J T TK Q
  | .exit id, fr, S, J, T, TK, Q => Q (.ex id) fr S J T TK
  | .ret, fr, S, J, T, TK, Q => Q .rt fr S J T TK
  | .cut a b, fr, S, J, T, TK, Q => FCut E n0 m0 (fWp E n0 m0 a) (fWp E n0 m0 b) fr S J T TK Q
  | .rfn f ps asg bod L, fr, S, J, T, TK, Q => FRf E n0 m0 f ps asg bod L fr S J T TK Q

end Go.KL
