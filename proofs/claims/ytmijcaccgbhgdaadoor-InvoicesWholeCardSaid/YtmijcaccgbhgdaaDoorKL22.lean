/- The rules of a walk. -/
import Derived.Test.YtmijcaccgbhgdaaDoorKL21
set_option linter.unusedVariables false
set_option linter.unusedSimpArgs false
namespace Go.KL
open Go Go.RowKit

section
variable {E : Env} {n0 m0 : Nat} {fr : List (Nat × D)} {S : List O} {tk : Tks} {st : St}

/-! ### code -/

/-- behind a block -/
def QB (E : Env) (n0 m0 : Nat) (id : Nat) (b : AC) (Q : X → St → Prop) : X → St → Prop := fun x st =>
  match x with
  | .nm => AWp E n0 m0 b st Q
  | .ex id' => if id' = id then AWp E n0 m0 b st Q else Q (.ex id') st
  | .rt => Q .rt st

/-- at the end of a round -/
def QR (E : Env) (n0 m0 : Nat) (I : Nat → St → Prop) (n : Nat) (Q : X → St → Prop) : X → St → Prop := fun x st =>
  match x with
  | .nm => ∃ n' st'', n' < n ∧ Shift E n0 m0 st st'' ∧ I n' st''
  | x => Q x st

theorem w_assoc {a b c : AC} {Q : X → St → Prop} (h : AWp E n0 m0 (.seq a (.seq b c)) st Q) : AWp E n0 m0 (.seq (.seq a b) c) st Q := by
  refine AWp.mono a (fun x st' hx => ?_) h
  cases x with
  | nm => exact AWp.mono b (fun x st' hx => by cases x <;> exact hx) hx
  | ex id => exact hx
  | rt => exact hx
theorem w_rg {l : List CI} {Q : X → St → Prop} (h : aops E l st fun st' => Q .nm st') : AWp E n0 m0 (.rg l) st Q := h
theorem w_rgs {l : List CI} {b : AC} {Q : X → St → Prop} (h : aops E l st fun st' => AWp E n0 m0 b st' Q) : AWp E n0 m0 (.seq (.rg l) b) st Q := h
theorem w_rd {l : List (CI × Bool)} {Q : X → St → Prop} (h : aqs E l st fun st' => Q .nm st') : AWp E n0 m0 (.rd l) st Q := h
theorem w_rds {l : List (CI × Bool)} {b : AC} {Q : X → St → Prop} (h : aqs E l st fun st' => AWp E n0 m0 b st' Q) : AWp E n0 m0 (.seq (.rd l) b) st Q := h
theorem w_skip {Q : X → St → Prop} (h : Q .nm st) : AWp E n0 m0 .skip st Q := h
theorem w_skips {b : AC} {Q : X → St → Prop} (h : AWp E n0 m0 b st Q) : AWp E n0 m0 (.seq .skip b) st Q := h
theorem w_ret {Q : X → St → Prop} (h : Q .rt st) : AWp E n0 m0 .ret st Q := h
theorem w_rets {b : AC} {Q : X → St → Prop} (h : Q .rt st) : AWp E n0 m0 (.seq .ret b) st Q := h
theorem w_exit {id : Nat} {Q : X → St → Prop} (h : Q (.ex id) st) : AWp E n0 m0 (.exit id) st Q := h
theorem w_exits {id : Nat} {b : AC} {Q : X → St → Prop} (h : Q (.ex id) st) : AWp E n0 m0 (.seq (.exit id) b) st Q := h
theorem w_block {id : Nat} {a : AC} {Q : X → St → Prop} (h : AWp E n0 m0 a st (QB E n0 m0 id .skip Q)) : AWp E n0 m0 (.block id a) st Q :=
  AWp.mono a (fun x st' hx => by cases x <;> exact hx) h
theorem w_blocks {id : Nat} {a b : AC} {Q : X → St → Prop} (h : AWp E n0 m0 a st (QB E n0 m0 id b Q)) : AWp E n0 m0 (.seq (.block id a) b) st Q := by
  refine AWp.mono a (fun x st' hx => ?_) h
  cases x with
  | nm => exact hx
  | ex id' =>
    simp only [QB] at hx ⊢
    by_cases he : id' = id
    · rw [if_pos he] at hx ⊢; exact hx
    · rw [if_neg he] at hx ⊢; exact hx
  | rt => exact hx
theorem w_condt {c : Opd} {a b : AC} {Q : X → St → Prop} (hc : ev E fr c = .bool true) (h : AWp E n0 m0 a ⟨fr, S, tk⟩ Q) : AWp E n0 m0 (.cond c a b) ⟨fr, S, tk⟩ Q := by
  simp only [AWp, hc]; exact ⟨fun _ => h, fun e => by cases e⟩
theorem w_condf {c : Opd} {a b : AC} {Q : X → St → Prop} (hc : ev E fr c = .bool false) (h : AWp E n0 m0 b ⟨fr, S, tk⟩ Q) : AWp E n0 m0 (.cond c a b) ⟨fr, S, tk⟩ Q := by
  simp only [AWp, hc]; exact ⟨fun e => (by cases e), fun _ => h⟩
theorem w_condst {c : Opd} {a b d : AC} {Q : X → St → Prop} (hc : ev E fr c = .bool true) (h : AWp E n0 m0 (.seq a d) ⟨fr, S, tk⟩ Q) : AWp E n0 m0 (.seq (.cond c a b) d) ⟨fr, S, tk⟩ Q := by
  simp only [AWp, hc]; exact ⟨fun _ => h, fun e => by cases e⟩
theorem w_condsf {c : Opd} {a b d : AC} {Q : X → St → Prop} (hc : ev E fr c = .bool false) (h : AWp E n0 m0 (.seq b d) ⟨fr, S, tk⟩ Q) : AWp E n0 m0 (.seq (.cond c a b) d) ⟨fr, S, tk⟩ Q := by
  simp only [AWp, hc]; exact ⟨fun e => (by cases e), fun _ => h⟩
theorem w_loop {a : AC} {Q : X → St → Prop} (I : Nat → St → Prop) (n : Nat) (st0 : St) (h0 : Shift E n0 m0 st st0) (h1 : I n st0) (h2 : ∀ n st, I n st → AWp E n0 m0 a st (QR E n0 m0 I n Q)) : AWp E n0 m0 (.loop a) st Q :=
  ⟨I, n, st0, h0, h1, fun n st hI => AWp.mono a (fun x st' hx => by cases x <;> exact hx) (h2 n st hI)⟩
theorem w_loops {a b : AC} {Q : X → St → Prop} (I : Nat → St → Prop) (n : Nat) (st0 : St) (h0 : Shift E n0 m0 st st0) (h1 : I n st0) (h2 : ∀ n st, I n st → AWp E n0 m0 a st (QR E n0 m0 I n Q)) (hne : ∀ st, Q .nm st → False := by intro st h; exact h) : AWp E n0 m0 (.seq (.loop a) b) st Q :=
  ⟨I, n, st0, h0, h1, fun n st hI => AWp.mono a (fun x st' hx => by cases x <;> exact hx) (h2 n st hI)⟩
/-- what is needed of a state, at a place where ways meet -/
theorem w_cut {a : AC} {Q : X → St → Prop} (Q' : X → St → Prop) (h : AWp E n0 m0 a st Q') (hq : ∀ x st', Q' x st' → Q x st') : AWp E n0 m0 a st Q := AWp.mono a hq h

theorem qb_nm {id : Nat} {b : AC} {Q : X → St → Prop} (h : AWp E n0 m0 b st Q) : QB E n0 m0 id b Q .nm st := h
theorem qb_hit {id : Nat} {b : AC} {Q : X → St → Prop} (h : AWp E n0 m0 b st Q) : QB E n0 m0 id b Q (.ex id) st := by simp only [QB, if_true]; exact h
theorem qb_miss {id id' : Nat} {b : AC} {Q : X → St → Prop} (hne : (id' == id) = false) (h : Q (.ex id') st) : QB E n0 m0 id b Q (.ex id') st := by
  simp only [QB]; rw [if_neg (by simpa using hne)]; exact h
theorem qb_rt {id : Nat} {b : AC} {Q : X → St → Prop} (h : Q .rt st) : QB E n0 m0 id b Q .rt st := h
theorem qr_ex {I : Nat → St → Prop} {n id : Nat} {Q : X → St → Prop} (h : Q (.ex id) st) : QR E n0 m0 I n Q (.ex id) st := h
theorem qr_rt {I : Nat → St → Prop} {n : Nat} {Q : X → St → Prop} (h : Q .rt st) : QR E n0 m0 I n Q .rt st := h
theorem qr_nm {I : Nat → St → Prop} {n : Nat} {Q : X → St → Prop} (n' : Nat) (st'' : St) (h1 : n' < n) (h2 : Shift E n0 m0 st st'') (h3 : I n' st'') : QR E n0 m0 I n Q .nm st := ⟨n', st'', h1, h2, h3⟩

/-! ### steps in order -/

theorem a_nil {K : St → Prop} (h : K st) : aops E [] st K := h
theorem a_go {ci : CI} {r : List CI} {K : St → Prop} (h : gD E ci fr S tk fun d S' tk' => aops E r ⟨putf ci.dst d fr, S', tk'⟩ K) : aops E (ci :: r) ⟨fr, S, tk⟩ K := h
theorem q_nil {K : St → Prop} (h : K st) : aqs E [] st K := h
theorem q_go {ci : CI} {r : List (CI × Bool)} {K : St → Prop} (h : gD E ci fr S tk fun d S' tk' => aqs E r ⟨putf ci.dst d fr, S', tk'⟩ K) : aqs E ((ci, true) :: r) ⟨fr, S, tk⟩ K := h
theorem q_gq {ci : CI} {r : List (CI × Bool)} {K : St → Prop} (h : gQ E ci fr S tk fun d => aqs E r ⟨putf ci.dst d fr, S, tk⟩ K) : aqs E ((ci, false) :: r) ⟨fr, S, tk⟩ K := h

/-- a guard that is met, or not -/
theorem g_no {dst : Option Nat} {i : Ins} {K : D → List O → Tks → Prop} (h : aop E i fr S tk K) : gD E ⟨dst, none, i⟩ fr S tk K := h
theorem g_yes {dst : Option Nat} {i : Ins} {t : Nat} {b : Bool} {K : D → List O → Tks → Prop} (hg : KL.get fr t = .bool b) (h : aop E i fr S tk K) : gD E ⟨dst, some (t, b), i⟩ fr S tk K := by
  simp only [gD, hg]; exact ⟨fun _ => h, fun e => absurd rfl e⟩
theorem g_not {dst : Option Nat} {i : Ins} {t : Nat} {b : Bool} {K : D → List O → Tks → Prop} (hg : KL.get fr t = .bool (!b)) (h : K .und S tk) : gD E ⟨dst, some (t, b), i⟩ fr S tk K := by
  simp only [gD, hg]; exact ⟨fun e => absurd e (by cases b <;> exact fun e => Bool.noConfusion e), fun _ => h⟩
theorem gq_no {dst : Option Nat} {i : Ins} {K : D → Prop} (h : aq1 E i fr S tk K) : gQ E ⟨dst, none, i⟩ fr S tk K := h
theorem gq_yes {dst : Option Nat} {i : Ins} {t : Nat} {b : Bool} {K : D → Prop} (hg : KL.get fr t = .bool b) (h : aq1 E i fr S tk K) : gQ E ⟨dst, some (t, b), i⟩ fr S tk K := by
  simp only [gQ, hg]; exact ⟨fun _ => h, fun e => absurd rfl e⟩
theorem gq_not {dst : Option Nat} {i : Ins} {t : Nat} {b : Bool} {K : D → Prop} (hg : KL.get fr t = .bool (!b)) (h : K .und) : gQ E ⟨dst, some (t, b), i⟩ fr S tk K := by
  simp only [gQ, hg]; exact ⟨fun e => absurd e (by cases b <;> exact fun e => Bool.noConfusion e), fun _ => h⟩

theorem o_pure {i : Ins} {d : D} {K : D → List O → Tks → Prop} (hi : isPure i = true) (h : pv E fr S i = some d) (hk : K d S tk) : aop E i fr S tk K := by
  rw [aop_pure hi, h]; exact hk
/-- a bool that is not known: both ways -/
theorem o_bool {i : Ins} {b : Bool} {K : D → List O → Tks → Prop} (hi : isPure i = true) (h : pv E fr S i = some (.bool b)) (hk : ∀ q, b = q → K (.bool q) S tk) : aop E i fr S tk K := by
  rw [aop_pure hi, h]; exact hk b rfl

theorem aq1_pure {i : Ins} {K : D → Prop} (hi : isPure i = true) : aq1 E i fr S tk K = match pv E fr S i with
    | some d => K d
    | none => False := by
  cases i <;> first | rfl | (simp [isPure] at hi)
theorem oq_pure {i : Ins} {d : D} {K : D → Prop} (hi : isPure i = true) (h : pv E fr S i = some d) (hk : K d) : aq1 E i fr S tk K := by
  rw [aq1_pure hi, h]; exact hk
theorem oq_bool {i : Ins} {b : Bool} {K : D → Prop} (hi : isPure i = true) (h : pv E fr S i = some (.bool b)) (hk : ∀ q, b = q → K (.bool q)) : aq1 E i fr S tk K := by
  rw [aq1_pure hi, h]; exact hk b rfl

theorem o_box {x : Opd} {T : TypeId} {d : D} {cs : List D} {K : D → List O → Tks → Prop} (hd : ev E fr x = d) (hv : d.var = true ∧ allLeaf d.cs = true) (hcs : d.cs = cs) (hk : K (.po S.length 0) (S ++ [.arr cs]) tk) : aop E (.box x T) fr S tk K := by
  subst hcs; subst hd; exact ⟨hv, hk⟩
theorem o_alloc {zs : List D} {T : TypeId} {K : D → List O → Tks → Prop} (hk : K (.po S.length 0) (S ++ [.arr zs]) tk) : aop E (.alloc zs T) fr S tk K := hk
theorem o_st {n : Nat} {x v : Opd} {id off : Nat} {cs cs' : List D} {d : D} {K : D → List O → Tks → Prop} (hx : ev E fr x = .po id off) (hS : S[id]? = some (.arr cs)) (hd : ev E fr v = d) (hv : d.var = true ∧ allLeaf d.cs = true ∧ d.cs.length = n ∧ off + n ≤ cs.length) (hc : setC cs off d.cs = cs')
    (hk : K .top (S.set id (.arr cs')) tk) : aop E (.st n x v) fr S tk K := by
  subst hc; subst hd; simp only [aop, hx, hS]; exact ⟨hv, hk⟩
theorem o_call {f : FuncId} {args : List Opd} {ds : List D} {P K : D → List O → Tks → Prop} (hd : evs E fr args = ds) (h : ACalls E f ds S tk P) (hk : ∀ r S' tk', P r S' tk' → K r S' tk') : aop E (.call f args) fr S tk K := by
  subst hd; exact h.mono hk
theorem oq_call {f : FuncId} {args : List Opd} {ds : List D} {d : D} {K : D → Prop} (hd : evs E fr args = ds) (h : ACalls E f ds S tk (fun r S' tk' => r = d ∧ S' = S ∧ tk' = tk)) (hk : K d) : aq1 E (.call f args) fr S tk K := by
  subst hd; exact ⟨d, h, hk⟩
theorem o_callv {x : Opd} {f : FuncId} {caps : List D} {args : List Opd} {ds : List D} {P K : D → List O → Tks → Prop} (hx : ev E fr x = .fn f caps) (hok : callOK E.P f = true) (hd : evs E fr args ++ caps = ds) (h : ACalls E f ds S tk P) (hk : ∀ r S' tk', P r S' tk' → K r S' tk') : aop E (.callv x args) fr S tk K := by
  subst hd; simp only [aop, hx]; exact ⟨hok, h.mono hk⟩
theorem oq_callv {x : Opd} {f : FuncId} {caps : List D} {args : List Opd} {ds : List D} {d : D} {K : D → Prop} (hx : ev E fr x = .fn f caps) (hok : callOK E.P f = true) (hd : evs E fr args ++ caps = ds) (h : ACalls E f ds S tk (fun r S' tk' => r = d ∧ S' = S ∧ tk' = tk)) (hk : K d) : aq1 E (.callv x args) fr S tk K := by
  subst hd; simp only [aq1, hx]; exact ⟨hok, d, h, hk⟩
theorem o_extn {f : FuncId} {args : List Opd} {ds : List D} {d : D} {K : D → List O → Tks → Prop} (hd : evs E fr args = ds) (h : AExt E f ds d) (hk : K d S tk) : aop E (.extn f args) fr S tk K := by
  subst hd; exact ⟨d, h, hk⟩
theorem oq_extn {f : FuncId} {args : List Opd} {ds : List D} {d : D} {K : D → Prop} (hd : evs E fr args = ds) (h : AExt E f ds d) (hk : K d) : aq1 E (.extn f args) fr S tk K := by
  subst hd; exact ⟨d, h, hk⟩
theorem o_mkmap {K : D → List O → Tks → Prop} (hk : K (.map S.length) (S ++ [.map []]) tk) : aop E .mkmap fr S tk K := hk
theorem o_mksl {e : TypeId} {sz bytes : Nat} {zs : List D} {l c : Opd} {k k' : IntKind} {n : Nat} {K : D → List O → Tks → Prop} (hl : ev E fr l = .int k n) (hc : ev E fr c = .int k' n) (hb : n ≤ 4611686018427387904 ∧ n * bytes ≤ 140737488355328)
    (hk : K (.osl S.length 0 n sz) (S ++ [.arr (List.replicate n zs).flatten]) tk) : aop E (.mksl e sz bytes zs l c) fr S tk K := by
  simp only [aop, hl, hc, Int.toNat_natCast]; exact ⟨⟨by omega, trivial, by omega, hb.2⟩, hk⟩
/-- append to a growing slice -/
theorem o_app {T e : TypeId} {sz bytes : Nat} {zs : List D} {x y : Opd} {es src : List (List D)} {t : Nat} {K : D → List O → Tks → Prop} (hx : ev E fr x = .gsl es t) (hy : (ev E fr y).rd = some src) (ht : tk[t]? = some (es.length, e, sz)) (hs : ∀ s ∈ src, s.length = sz)
    (hl : es.length + src.length ≤ maxLen ∧ (es.length + src.length) * bytes ≤ 140737488355328) (hk : K (.gsl (es ++ src) t) S (tk.set t ((es ++ src).length, e, sz))) : aop E (.app T e sz bytes zs x y) fr S tk K := by
  simp only [aop, hy, hx, appP]; exact ⟨⟨ht, hs, hl.1, hl.2⟩, hk⟩
/-- append to nil, or to a slice of no capacity -/
theorem o_app0 {T e : TypeId} {sz bytes : Nat} {zs : List D} {x y : Opd} {src : List (List D)} {K : D → List O → Tks → Prop} (hx : ev E fr x = .nilsl) (hy : (ev E fr y).rd = some src) (hs : ∀ s ∈ src, s.length = sz)
    (hl : src.length ≤ maxLen ∧ src.length * bytes ≤ 140737488355328) (hk : K (.gsl src tk.length) S (tk ++ [(src.length, e, sz)])) : aop E (.app T e sz bytes zs x y) fr S tk K := by
  simp only [aop, hy, hx, appP]; exact ⟨⟨hs, hl.1, hl.2⟩, hk⟩
theorem o_appf {T e : TypeId} {sz bytes : Nat} {zs : List D} {x y : Opd} {src : List (List D)} {K : D → List O → Tks → Prop} (hx : ev E fr x = .full []) (hy : (ev E fr y).rd = some src) (hs : ∀ s ∈ src, s.length = sz)
    (hl : src.length ≤ maxLen ∧ src.length * bytes ≤ 140737488355328) (hk : K (.gsl src tk.length) S (tk ++ [(src.length, e, sz)])) : aop E (.app T e sz bytes zs x y) fr S tk K := by
  simp only [aop, hy, hx, appP]; exact ⟨⟨hs, hl.1, hl.2⟩, hk⟩

/-! ### what has been laid behind S -/

theorem lk {S J : List O} (k : Nat) : (S ++ J)[S.length + k]? = J[k]? := by
  rw [List.getElem?_append_right (by omega)]; congr 1; omega
theorem lk0 {S J : List O} : (S ++ J)[S.length]? = J[0]? := lk (S := S) (J := J) 0
theorem lkold {S J : List O} {id : Nat} {o : O} (h : S[id]? = some o) : (S ++ J)[id]? = some o := by
  rw [List.getElem?_append_left (List.getElem?_eq_some_iff.1 h).1]; exact h
theorem ls {S J : List O} (k : Nat) (o : O) : (S ++ J).set (S.length + k) o = S ++ J.set k o := by
  rw [List.set_append_right _ _ (by omega)]; congr 2; omega
theorem ls0 {S J : List O} (o : O) : (S ++ J).set S.length o = S ++ J.set 0 o := ls (S := S) (J := J) 0 o
theorem tkk {T J : Tks} (k : Nat) : (T ++ J)[T.length + k]? = J[k]? := by
  rw [List.getElem?_append_right (by omega)]; congr 1; omega
theorem tkk0 {T J : Tks} : (T ++ J)[T.length]? = J[0]? := tkk (T := T) (J := J) 0
theorem tks {T J : Tks} (k : Nat) (o : Nat × TypeId × Nat) : (T ++ J).set (T.length + k) o = T ++ J.set k o := by
  rw [List.set_append_right _ _ (by omega)]; congr 2; omega
theorem tks0 {T J : Tks} (o : Nat × TypeId × Nat) : (T ++ J).set T.length o = T ++ J.set 0 o := tks (T := T) (J := J) 0 o

/-! ### functions -/

theorem ACalls.go {f : FuncId} {af : AF} (hc : cFun E.P f = some af) {ds : List D} (hn : (ds.length ≤ af.nt) = True) {Post : D → List O → Tks → Prop}
    (h : OSc S.length tk.length S → AWp E S.length tk.length af.code ⟨frA 0 ds, S ++ [], tk ++ []⟩ (Qret E S.length tk.length af.res Post)) : ACalls E f ds S tk Post :=
  ACalls.intro hc (hn ▸ trivial) fun hS => by
    have := h hS
    rwa [List.append_nil, List.append_nil] at this

/-- the end: all that the call made is forgotten -/
theorem fin {res : List (Nat × Option (Nat × Bool))} {Post : D → List O → Tks → Prop} {J : List O} {J' : Tks} {x : X} {ds : List D} {d' : D} (hS : OSc S.length tk.length S) (hx : (match x with | .ex _ => false | _ => true) = true) (hr : resD fr (S ++ J) res = some ds) (hs : Sub (tupD ds) d')
    (hsc : d'.sc S.length tk.length = true) (hp : Post d' S tk) : Qret E S.length tk.length res Post x ⟨fr, S ++ J, tk ++ J'⟩ := by
  have key : ∃ ds, resD fr (S ++ J) res = some ds ∧ ∃ d' S' tk', Shift E S.length tk.length ⟨[(0, tupD ds)], S ++ J, tk ++ J'⟩ ⟨[(0, d')], S', tk'⟩ ∧ Post d' S' tk' :=
    ⟨ds, hr, d', S, tk, Shift.drop ⟨by simpa [KL.get] using hs, trivial⟩ (Nat.le_refl _) (Nat.le_refl _) (by simp [frSc, hsc]) hS, hp⟩
  cases x with
  | nm => exact key
  | rt => exact key
  | ex id => cases hx

end
end Go.KL
