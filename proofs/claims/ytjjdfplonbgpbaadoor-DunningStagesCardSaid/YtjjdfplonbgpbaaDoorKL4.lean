/- The small code: what a function is compiled to, and what its steps do to a state. -/
import Derived.Test.YtjjdfplonbgpbaaDoorKL3
import Derived.Test.YtjjdfplonbgpbaaDoorKL3V
set_option linter.unusedVariables false
namespace Go.KL
open Go Go.RowKit

inductive Opd where
  | t (i : Nat)
  | k (d : D)
  | g (i : Nat)
  deriving Inhabited

inductive LK where
  | i | b | s
  deriving Inhabited, DecidableEq

inductive EqK where
  | leaf | leafB | agg (plan : List (Nat × LK)) | ptr | slice | map | fn
  deriving Inhabited

inductive Ins where
  | mv (x : Opd)
  | pick (c a b : Opd)
  | alloc (zs : List D) (T : TypeId)
  | box (x : Opd) (T : TypeId)
  | build (zs : List D) (parts : List (Nat × Nat × Opd))
  | buildS (n sz : Nat) (zs : List D) (parts : List (Nat × Opd)) (e : TypeId)
  | ld (n : Nat) (ag : Bool) (x : Opd)
  | st (n : Nat) (x v : Opd)
  | nilck (x : Opd)
  | bin (op : BinOp) (q : EqK) (x y : Opd)
  | un (op : UnOp) (x : Opd)
  | conv (k : IntKind) (x : Opd)
  | convS (x : Opd)
  | b2s (x : Opd)
  | mkfn (f : FuncId) (caps : List Opd)
  | fa (off : Nat) (x : Opd)
  | fd (off n : Nat) (ag : Bool) (x : Opd)
  | ia (sz : Nat) (x i : Opd)
  | iaA (len sz : Nat) (x i : Opd)
  | ixA (len sz : Nat) (ag : Bool) (x i : Opd)
  | ixS (x i : Opd)
  | slS (x : Opd) (lo hi : Option Opd)
  | slL (sz : Nat) (x : Opd) (lo hi mx : Option Opd)
  | slA (len sz : Nat) (x : Opd) (lo hi : Option Opd)
  | ext (i : Nat) (x : Opd)
  | len (q : Nat) (x : Opd)
  | lenA (n : Nat)
  | mm (mx : Bool) (xs : List Opd)
  | app (T e : TypeId) (sz bytes : Nat) (zs : List D) (x y : Opd)
  | call (f : FuncId) (args : List Opd)
  | callv (x : Opd) (args : List Opd)
  | extn (f : FuncId) (args : List Opd)
  | mkmap (kt : KT)
  | mget (kt : KT) (z : D) (ok : Bool) (x k : Opd)
  | mset (kt : KT) (x k v : Opd)
  | ment (kt : KT) (z : D) (x k : Opd)
  | mest (x s v : Opd)
  | mdel (kt : KT) (x k : Opd)
  | rngM (x : Opd)
  | nxt (x : Opd)
  | ent (x : Opd)
  | mkbm (f : FuncId) (fs caps : List Opd)
  | mksl (e : TypeId) (sz bytes : Nat) (zs : List D) (l c : Opd)
  deriving Inhabited

structure CI where
  dst : Option Nat
  grd : Option (Nat × Bool)
  ins : Ins
  deriving Inhabited

inductive AC where
  | skip
  | rg (l : List CI)
  | rd (l : List (CI × Option (List CI)))
  | seq (a b : AC)
  | cond (c : Opd) (a b : AC)
  | block (id : Nat) (a : AC)
  | loop (a : AC)
  | exit (id : Nat)
  | ret
  | rfn (f : Opd) (ps : List Nat) (asg bod : AC) (L : Array Nat × Code × Code)
  | cut (a b : AC)   -- as seq; a walk may forget there what it no longer needs
  deriving Inhabited

def noCut : AC → Bool
  | .seq a b => noCut a && noCut b
  | .cond _ a b => noCut a && noCut b
  | .block _ a => noCut a
  | .loop a => noCut a
  | .cut _ _ => false
  | .rfn _ _ _ _ _ => true
  | .skip | .rg _ | .rd _ | .exit _ | .ret => true
def erase : AC → AC
  | .seq a b => .seq (erase a) (erase b)
  | .cond c a b => .cond c (erase a) (erase b)
  | .block id a => .block id (erase a)
  | .loop a => .loop (erase a)
  | .cut a b => .seq (erase a) (erase b)
  | .rfn f ps asg bod L => .rfn f ps asg bod L
  | .skip => .skip
  | .rg l => .rg l
  | .rd l => .rd l
  | .exit id => .exit id
  | .ret => .ret
theorem erase_id : ∀ (c : AC), noCut c = true → erase c = c
  | .seq a b, h => by simp only [noCut, Bool.and_eq_true] at h; rw [erase, erase_id a h.1, erase_id b h.2]
  | .cond c a b, h => by simp only [noCut, Bool.and_eq_true] at h; rw [erase, erase_id a h.1, erase_id b h.2]
  | .block id a, h => by simp only [noCut] at h; rw [erase, erase_id a h]
  | .loop a, h => by simp only [noCut] at h; rw [erase, erase_id a h]
  | .cut _ _, h => by cases h
  | .rfn _ _ _ _ _, _ => rfl
  | .skip, _ => rfl
  | .rg _, _ => rfl
  | .rd _, _ => rfl
  | .exit _, _ => rfl
  | .ret, _ => rfl
/-- the seq's of a code that are numbered so (from the front, each ahead of its parts) become cuts -/
def cutN (p : Nat → Bool) : Nat → AC → AC × Nat
  | n, .seq a b =>
    let x := cutN p (n + 1) a
    let y := cutN p x.2 b
    (if p n then .cut x.1 y.1 else .seq x.1 y.1, y.2)
  | n, .cond c a b =>
    let x := cutN p n a
    let y := cutN p x.2 b
    (.cond c x.1 y.1, y.2)
  | n, .block id a => let x := cutN p n a; (.block id x.1, x.2)
  | n, .loop a => let x := cutN p n a; (.loop x.1, x.2)
  | n, c => (c, n)
def cutAt (l : List Nat) (c : AC) : AC := (cutN (fun n => l.contains n) 0 c).1
theorem erase_cutN (p : Nat → Bool) : ∀ (c : AC) (n : Nat), noCut c = true → erase (cutN p n c).1 = c
  | .seq a b, n, h => by
    simp only [noCut, Bool.and_eq_true] at h
    simp only [cutN]
    split <;> simp only [erase, erase_cutN p a _ h.1, erase_cutN p b _ h.2]
  | .cond c a b, n, h => by simp only [noCut, Bool.and_eq_true] at h; simp only [cutN, erase, erase_cutN p a _ h.1, erase_cutN p b _ h.2]
  | .block id a, n, h => by simp only [noCut] at h; simp only [cutN, erase, erase_cutN p a _ h]
  | .loop a, n, h => by simp only [noCut] at h; simp only [cutN, erase, erase_cutN p a _ h]
  | .cut _ _, n, h => by cases h
  | .rfn _ _ _ _ _, _, _ => rfl
  | .skip, _, _ => rfl
  | .rg _, _, _ => rfl
  | .rd _, _, _ => rfl
  | .exit _, _, _ => rfl
  | .ret, _, _ => rfl

/-! ## compiling -/

def ofLeaf : Value → Option D
  | .int k n => some (.int k n)
  | .bool b => some (.bool b)
  | .string s => some (.str s)
  | .pointer none => some .nilp
  | .slice none 0 0 => some .nilsl
  | .map none => some .nilmap
  | .nilFunc => some .nilfn
  | _ => none

def ofLeaves : List Value → Option (List D)
  | [] => some []
  | v :: r => match ofLeaf v, ofLeaves r with
    | some d, some l => some (d :: l)
    | _, _ => none

def ofV : Value → Option D
  | .agg cs => (ofLeaves cs.toList).map .agg
  | .tuple cs => (ofLeaves cs.toList).map .tup
  | v => ofLeaf v

def cOpd : Operand → Option Opd
  | .tmp t => some (.t t)
  | .const v => (ofV v).map .k
  | .global g => some (.g g)
  | .func f => some (.k (.fn f []))

def cOpds : List Operand → Option (List Opd)
  | [] => some []
  | x :: r => match cOpd x, cOpds r with
    | some a, some l => some (a :: l)
    | _, _ => none

def cOpt : Option Operand → Option (Option Opd)
  | none => some none
  | some x => (cOpd x).map some

def aggT (P : Program) (T : TypeId) : Option Bool :=
  match P.underlying T with
  | some (.struct _) | some (.array _ _) => some true
  | some _ => some false
  | none => none

/-- cells of a type, and whether it is a struct or an array; a type of no cells is left out, and so is a one-cell type of another size -/
def szT (P : Program) (T : TypeId) : Option (Nat × Bool) :=
  match P.info? T, aggT P T with
  | some i, some true => some (i.size, true)
  | some i, some false => if i.size = 1 then some (1, false) else none
  | _, _ => none

def zeroT (P : Program) (T : TypeId) : Option (List D) :=
  match P.info? T with
  | some i => match i.zero with
    | some z => ofLeaves z.cells.toList
    | none => none
  | none => none

def zeroV (P : Program) (T : TypeId) : Option D :=
  match P.info? T with
  | some i => match i.zero with
    | some z => ofV z
    | none => none
  | none => none

def eqPlanL (P : Program) (n : Nat) (rec : TypeId → Nat → Option (List (Nat × LK))) : List Field → Nat → Option (List (Nat × LK))
  | [], _ => some []
  | f :: r, base => if f.name = "_" then none else
    match P.info? f.type with
    | some i => if 0 < i.size ∧ f.offset + i.size ≤ n then
        match rec f.type (base + f.offset), eqPlanL P n rec r base with
        | some a, some b => some (a ++ b)
        | _, _ => none
      else none
    | none => none

def eqPlanA (rec : TypeId → Nat → Option (List (Nat × LK))) (e : TypeId) (sz : Nat) : Nat → Nat → Option (List (Nat × LK))
  | 0, _ => some []
  | n + 1, base => match rec e base, eqPlanA rec e sz n (base + sz) with
    | some a, some b => some (a ++ b)
    | _, _ => none

def eqPlan (P : Program) : Nat → TypeId → Nat → Option (List (Nat × LK))
  | 0, _, _ => none
  | d + 1, T, base =>
    match P.underlying T with
    | some (.int _) => some [(base, .i)]
    | some .bool => some [(base, .b)]
    | some .string => some [(base, .s)]
    | some (.struct fs) => if P.stoodInHeld T then none else
      match P.info? T with
      | some i => eqPlanL P i.size (eqPlan P d) fs.toList base
      | none => none
    | some (.array n e) => match P.info? e, P.info? T with
      | some i, some j => if 0 < i.size ∧ j.size = n * i.size then eqPlanA (eqPlan P d) e i.size n base else none
      | _, _ => none
    | _ => none

def eqK (P : Program) (T : TypeId) : Option EqK :=
  match P.underlying T with
  | some (.int _) | some .string => some .leaf
  | some .bool => some .leafB
  | some (.struct _) | some (.array _ _) => if P.eqGuardType P.depth T then none else (eqPlan P 10000 T 0).map .agg
  | some (.pointer _) => some .ptr
  | some (.slice _) => some .slice
  | some (.map _ _) => some .map
  | some (.func _ _ _) => some .fn
  | _ => none

def klf (P : Program) (T : TypeId) : Option KLf :=
  match P.underlying T with
  | some (.int k) => some (.i k)
  | some .string => some .s
  | some .bool => some .b
  | _ => none

/-- a flat struct's fields, one cell each -/
def klfs (P : Program) : List Field → Nat → Option (List KLf)
  | [], _ => some []
  | f :: r, n => if f.name = "_" ∨ f.offset ≠ n then none else
    match szT P f.type, klf P f.type, klfs P r (n + 1) with
    | some (1, false), some k, some l => some (k :: l)
    | _, _, _ => none

def KLf.lk : KLf → LK
  | .i _ => .i
  | .s => .s
  | .b => .b
def klfPlan : List KLf → Nat → List (Nat × LK)
  | [], _ => []
  | k :: r, n => (n, k.lk) :: klfPlan r (n + 1)

/-- the kinds of a map's keys -/
def ktT (P : Program) (T : TypeId) : Option KT :=
  match P.underlying T with
  | some (.struct fs) => match klfs P fs.toList 0, eqK P T with
    | some l, some (.agg pl) => if pl = klfPlan l 0 then some (.agg l) else none
    | _, _ => none
  | _ => (klf P T).map .lf

def callOK (P : Program) (f : FuncId) : Bool :=
  match P.funcs[f]? with
  | some fn => fn.body.isSome && fn.name != "runtime.NumGoroutine"
  | none => false

def extOK (P : Program) (f : FuncId) : Bool :=
  match P.funcs[f]? with
  | some fn => fn.body.isNone
  | none => false

def cParts : List (Nat × Operand) → Option (List (Nat × Opd))
  | [] => some []
  | (i, x) :: r => match cOpd x, cParts r with
    | some a, some l => some ((i, a) :: l)
    | _, _ => none

def fieldPl (P : Program) : List Field → Option (List (Nat × Nat))
  | [] => some []
  | f :: r => match P.info? f.type, fieldPl P r with
    | some i, some l => some ((f.offset, i.size) :: l)
    | _, _ => none

def cPartsF (pl : List (Nat × Nat)) : List (Nat × Operand) → Option (List (Nat × Nat × Opd))
  | [] => some []
  | (i, x) :: r => match pl[i]?, cOpd x, cPartsF pl r with
    | some p, some a, some l => some ((p.1, p.2, a) :: l)
    | _, _, _ => none

def cPartsA (sz : Nat) : List (Nat × Operand) → Option (List (Nat × Nat × Opd))
  | [] => some []
  | (i, x) :: r => match cOpd x, cPartsA sz r with
    | some a, some l => some ((i * sz, sz, a) :: l)
    | _, _ => none

def isEq : BinOp → Bool
  | .eql => true
  | .neq => true
  | _ => false

def cIns (P : Program) (o : Oper) : Option Ins :=
  match o.op with
  | .move x | .assign x => (cOpd x).map .mv
  | .pick c a b => match cOpd c, cOpd a, cOpd b with
    | some c, some a, some b => some (.pick c a b)
    | _, _, _ => none
  | .alloc T => (zeroT P T).map (.alloc · T)
  | .box T x => (cOpd x).map (.box · T)
  | .build T parts => match P.underlying T, zeroT P T with
    | some (.struct fs), some zs => match fieldPl P fs.toList with
      | some pl => (cPartsF pl parts.toList).map (.build zs)
      | none => none
    | some (.array _ e), some zs => match P.info? e with
      | some i => (cPartsA i.size parts.toList).map (.build zs)
      | none => none
    | _, _ => none
  | .buildSlice T n parts => match P.underlying T with
    | some (.slice e) => match P.info? e, zeroT P e with
      | some i, some zs => if i.size = zs.length ∧ 0 < i.size ∧ n * i.size ≤ 16777216 then (cParts parts.toList).map (.buildS n i.size zs · e) else none
      | _, _ => none
    | _ => none
  | .load T x => match szT P T, cOpd x with
    | some (n, ag), some x => some (.ld n ag x)
    | _, _ => none
  | .store T x v => match szT P T, cOpd x, cOpd v with
    | some (n, _), some x, some v => some (.st n x v)
    | _, _, _ => none
  | .nilCheck x => (cOpd x).map .nilck
  | .binOp op T x y _ => match cOpd x, cOpd y with
    | some x, some y =>
      if isEq op = true then (eqK P T).map (.bin op · x y) else some (.bin op .leaf x y)
    | _, _ => none
  | .unOp op _ x => (cOpd x).map (.un op)
  | .convert src dst x => match P.underlying src, P.underlying dst, cOpd x with
    | some _, some (.int k), some x => some (.conv k x)
    | some .string, some .string, some x => some (.convS x)
    | some (.slice e), some .string, some x => (match P.underlying e with | some (.int .u8) => some (.b2s x) | _ => none)
    | _, _, _ => none
  | .makeFunc (.func f) first caps => if first.size = 0 then (cOpds caps.toList).map (.mkfn f) else match cOpds first.toList, cOpds caps.toList with
    | some a, some b => some (.mkbm f a b)
    | _, _ => none
  | .fieldAddr T x f => match P.underlying T, cOpd x with
    | some (.struct fs), some x => match fs[f]? with
      | some fd => match P.info? fd.type with
        | some i => if i.size = 0 then none else some (.fa fd.offset x)
        | none => none
      | none => none
    | _, _ => none
  | .field T x f => match P.underlying T, cOpd x with
    | some (.struct fs), some x => match fs[f]? with
      | some fd => match szT P fd.type with
        | some (n, ag) => some (.fd fd.offset n ag x)
        | none => none
      | none => none
    | _, _ => none
  | .indexAddr T x i => match P.underlying T, cOpd x, cOpd i with
    | some (.slice e), some x, some i => match P.info? e with
      | some inf => some (.ia inf.size x i)
      | none => none
    | some (.array n e), some x, some i => match P.info? e with
      | some inf => some (.iaA n inf.size x i)
      | none => none
    | _, _, _ => none
  | .index T x i => match P.underlying T, cOpd x, cOpd i with
    | some (.array n e), some x, some i => match szT P e with
      | some (sz, ag) => some (.ixA n sz ag x i)
      | none => none
    | some .string, some x, some i => some (.ixS x i)
    | _, _, _ => none
  | .slice T x lo hi mx => match P.underlying T, cOpd x, cOpt lo, cOpt hi, cOpt mx with
    | some .string, some x, some lo, some hi, some none => some (.slS x lo hi)
    | some (.slice e), some x, some lo, some hi, some mx => match P.info? e with
      | some inf => if mx.isSome = true → hi.isSome = true then some (.slL inf.size x lo hi mx) else none
      | none => none
    | some (.array n e), some x, some lo, some hi, some none => match P.info? e with
      | some inf => some (.slA n inf.size x lo hi)
      | none => none
    | _, _, _, _, _ => none
  | .extract x i => (cOpd x).map (.ext i)
  | .makeMap T none => match P.underlying T with
    | some (.map k _) => (ktT P k).map .mkmap
    | _ => none
  | .makeSlice T l c => match P.underlying T, cOpd l, cOpd c with
    | some (.slice e), some l, some c => match P.info? e, zeroT P e with
      | some i, some zs => if i.size = zs.length ∧ 0 < i.size then some (.mksl e i.size i.bytes zs l c) else none
      | _, _ => none
    | _, _, _ => none
  | .call c => match c.callee with
    | .value (.func f) => match cOpds c.args.toList with
      | some l => if callOK P f then some (.call f l) else if extOK P f then some (.extn f l) else none
      | none => none
    | .value x => match cOpd x, cOpds c.args.toList with
      | some x, some l => some (.callv x l)
      | _, _ => none
    | .builtin .len => match c.args.toList, c.argTypes.toList with
      | [x], [T] => match P.underlying T, cOpd x with
        | some .string, some x => some (.len 0 x)
        | some (.slice _), some x => some (.len 1 x)
        | some (.map _ _), some x => some (.len 2 x)
        | some (.array n _), some x => some (.lenA n)
        | _, _ => none
      | _, _ => none
    | .builtin .append => match c.args.toList, c.argTypes.toList with
      | [x, y], [T, T'] => if T = T' then
          match P.underlying T, cOpd x, cOpd y with
          | some (.slice e), some x, some y => match P.info? e, zeroT P e with
            | some i, some zs => if i.size = zs.length ∧ 0 < i.size then some (.app T e i.size i.bytes zs x y) else none
            | _, _ => none
          | _, _, _ => none
        else none
      | _, _ => none
    | .builtin .min => (cOpds c.args.toList).map (.mm false)
    | .builtin .max => (cOpds c.args.toList).map (.mm true)
    | .builtin .delete => match c.args.toList, c.argTypes.toList with
      | [x, k], T :: _ => match P.underlying T, cOpd x, cOpd k with
        | some (.map kT _), some x, some k => (ktT P kT).map (.mdel · x k)
        | _, _, _ => none
      | _, _ => none
    | _ => none
  | .lookup T x k ok => match P.underlying T, cOpd x, cOpd k with
    | some (.map kT e), some x, some k => match ktT P kT, zeroV P e with
      | some kt, some z => some (.mget kt z ok x k)
      | _, _ => none
    | _, _, _ => none
  | .mapUpdate T x k v | .insert T x k v => match P.underlying T, cOpd x, cOpd k, cOpd v with
    | some (.map kT _), some x, some k, some v => (ktT P kT).map (.mset · x k v)
    | _, _, _, _ => none
  | .mapEntry T x k => match P.underlying T, cOpd x, cOpd k with
    | some (.map kT e), some x, some k => match ktT P kT, zeroV P e with
      | some kt, some z => some (.ment kt z x k)
      | _, _ => none
    | _, _, _ => none
  | .entryStore _ x s v => match cOpd x, cOpd s, cOpd v with
    | some x, some s, some v => some (.mest x s v)
    | _, _, _ => none
  | .range T x => match P.underlying T, cOpd x with
    | some (.map _ _), some x => some (.rngM x)
    | _, _ => none
  | .next x false => (cOpd x).map .nxt
  | .entry x => (cOpd x).map .ent
  | _ => none

def dstOK (nt : Nat) : Option Nat → Bool
  | some d => decide (d < nt)
  | none => true

def cCI (P : Program) (ops : Array Oper) (nt : Nat) (o : Oper) : Option CI :=
  if dstOK nt o.dst = true then
    match cIns P o with
    | some i => match o.guard with
      | none => some ⟨o.dst, none, i⟩
      | some (j, b) => match (ops[j]?).bind (·.dst) with
        | some t => some ⟨o.dst, some (t, b), i⟩
        | none => none
    | none => none
  else none

def cCIs (P : Program) (ops : Array Oper) (nt : Nat) : List Oper → Option (List CI)
  | [] => some []
  | o :: r => match cCI P ops nt o, cCIs P ops nt r with
    | some a, some l => some (a :: l)
    | _, _ => none

/-! ## regions without an order -/

def Opd.slots : Opd → List Nat
  | .t i => [i]
  | _ => []

def slotsL : List Opd → List Nat
  | [] => []
  | x :: r => x.slots ++ slotsL r

def slotsO : Option Opd → List Nat
  | none => []
  | some x => x.slots

def slotsP : List (Nat × Nat × Opd) → List Nat
  | [] => []
  | (_, _, x) :: r => x.slots ++ slotsP r

def slotsQ : List (Nat × Opd) → List Nat
  | [] => []
  | (_, x) :: r => x.slots ++ slotsQ r

def Ins.slots : Ins → List Nat
  | .mv x | .box x _ | .nilck x | .un _ x | .conv _ x | .convS x | .b2s x | .fa _ x | .fd _ _ _ x | .ld _ _ x | .ext _ x | .len _ x => x.slots
  | .pick c a b => c.slots ++ (a.slots ++ b.slots)
  | .alloc _ _ | .mkmap _ | .lenA _ => []
  | .mget _ _ _ x k | .ment _ _ x k | .mdel _ x k => x.slots ++ k.slots
  | .mset _ x k v | .mest x k v => x.slots ++ (k.slots ++ v.slots)
  | .rngM x | .nxt x | .ent x => x.slots
  | .mkbm _ xs ys => slotsL xs ++ slotsL ys
  | .build _ ps => slotsP ps
  | .buildS _ _ _ ps _ => slotsQ ps
  | .st _ x v => x.slots ++ v.slots
  | .bin _ _ x y => x.slots ++ y.slots
  | .mkfn _ xs | .mm _ xs | .call _ xs | .extn _ xs => slotsL xs
  | .callv x xs => x.slots ++ slotsL xs
  | .ia _ x i | .iaA _ _ x i | .ixA _ _ _ x i | .ixS x i => x.slots ++ i.slots
  | .slS x lo hi => x.slots ++ (slotsO lo ++ slotsO hi)
  | .slL _ x lo hi mx => x.slots ++ (slotsO lo ++ (slotsO hi ++ slotsO mx))
  | .slA _ _ x lo hi => x.slots ++ (slotsO lo ++ slotsO hi)
  | .app _ _ _ _ _ x y => x.slots ++ y.slots
  | .mksl _ _ _ _ l c => l.slots ++ c.slots

def CI.looks (ci : CI) : List Nat :=
  ci.ins.slots ++ (match ci.grd with | some (t, _) => [t] | none => [])

/-- what neither reads nor changes an object -/
def Ins.indep : Ins → Bool
  | .alloc _ _ | .box _ _ | .st _ _ _ | .app _ _ _ _ _ _ _ | .call _ _ | .callv _ _ | .extn _ _ | .mkmap _ | .mksl _ _ _ _ _ _ => false
  | .ld _ _ _ | .b2s _ => false
  | .mget _ _ _ _ _ | .mset _ _ _ _ | .ment _ _ _ _ | .mest _ _ _ | .mdel _ _ _ | .rngM _ | .nxt _ | .ent _ => false
  | .len q _ => q == 0 || q == 1
  | _ => true

/-- what changes objects -/
def Ins.eff : Ins → Bool
  | .alloc _ _ | .box _ _ | .st _ _ _ | .app _ _ _ _ _ _ _ | .mkmap _ | .mksl _ _ _ _ _ _ => true
  | .mset _ _ _ _ | .ment _ _ _ _ | .mest _ _ _ | .mdel _ _ _ | .rngM _ | .nxt _ => true
  | _ => false

/-- all that stands ahead of each operation, as bits -/
def befs : List Oper → List Nat → List Nat
  | [], acc => acc
  | o :: r, acc => befs r (acc ++ [o.after.toList.foldl (fun s e => if Region.binds .any e then s ||| 2 ^ e.on ||| acc.getD e.on 0 else s) 0])

/-- j stands behind i in every order -/
def ordd (bs : List Nat) (i j : Nat) : Bool := (bs.getD j 0).testBit i

/-- a change of objects by the step itself: what looks at objects may stand on either side of it, if it then answers the same -/
def nilArg : Opd → Bool
  | .k .nilsl => true
  | .k .nilp => true
  | _ => false
def pivOK (cis : List CI) (bs : List Nat) (j : Nat) : Bool :=
  let soft := match cis[j]? with | some c => c.ins.eff || (match c.ins with | .call _ xs => xs.any nilArg | _ => false) | none => false
  (List.range cis.length).all fun i => i == j || (match cis[i]? with | some c => c.ins.indep || (soft && !c.ins.eff) | none => true) || ordd bs i j || ordd bs j i

/-- an order in which what hangs on no pivot that is still to come stands ahead of it -/
def canonGo (n : Nat) (bs : List Nat) (piv : Nat → Bool) : Nat → List Nat → List Nat
  | 0, done => done
  | k + 1, done =>
    let rest := (List.range n).filter fun j => !done.contains j
    match rest.find? fun j => !piv j && rest.all fun p => !ordd bs p j with
    | some j => canonGo n bs piv k (done ++ [j])
    | none => match rest.find? fun j => rest.all fun p => !ordd bs p j with
      | some j => canonGo n bs piv k (done ++ [j])
      | none => done

def isPiv (cis : List CI) (bs : List Nat) (j : Nat) : Bool :=
  match cis[j]? with
  | some c => !c.ins.indep && (match c.ins with | .call _ _ | .callv _ _ => true | i => i.eff) && pivOK cis bs j
  | none => false

/-- what must answer the same behind j as it did ahead of it -/
def rch (cis : List CI) (bs : List Nat) (pm : List Nat) (j : Nat) : List CI :=
  (pm.takeWhile fun i => i != j).filterMap fun i => match cis[i]? with
    | some c => if c.ins.indep || ordd bs i j || isPiv cis bs i then none else some c
    | none => none

/-- nothing from p on, ahead of q, writes what c looks at -/
def unwr (cis : List CI) (pm : List Nat) (p q : Nat) (c : CI) : Bool :=
  ((pm.take q).drop p).all fun i => match (cis.getD i default).dst with
    | some t => !(c.looks.contains t)
    | none => true

def edgesOK (ops : Array Oper) : Bool :=
  (List.range ops.size).all fun j => match ops[j]? with
    | some o => o.after.toList.all fun e => !Region.binds .any e || decide (e.on < j)
    | none => false

/-- is 'pm' an order of all operations, and may it stand for every order? -/
def drawOK (ops : Array Oper) (cis : List CI) (bs : List Nat) (pm : List Nat) : Bool :=
  edgesOK ops && pm.length == cis.length && cis.length == ops.size && (List.range cis.length).all (fun j => pm.contains j) && pm.all (fun j => decide (j < cis.length)) &&
  ((List.range pm.length).all fun p => (List.range pm.length).all fun q => p == q || pm.getD p 0 != pm.getD q 0) &&
  ((List.range pm.length).all fun q => (List.range pm.length).all fun p => match pm[p]?, pm[q]? with
    | some i, some j => match cis[i]?, cis[j]? with
      | some ci, some cj =>
        -- one writer; who looks stands in order with the writer, as the order chosen has them
        (match ci.dst with
          | none => true
          | some d => p == q || (cj.dst != some d && (!(cj.looks.contains d) || (if p < q then ordd bs i j else ordd bs j i)))) &&
        -- an operation that changes objects, or that may: a pivot
        (!cj.ins.eff || isPiv cis bs j) &&
        -- what stands behind a pivot hangs on it; what looks at objects and stands ahead of it is ahead of it in every order
        (!isPiv cis bs i || !(decide (p < q)) || ordd bs i j) &&
        (!isPiv cis bs j || !(decide (p < q)) || ci.ins.indep || ordd bs i j || (!isPiv cis bs i && ci.dst.isSome && unwr cis pm p q ci))
      | _, _ => false
    | _, _ => false)

def cDraw (ops : Array Oper) (cis : List CI) : Option (List (CI × Option (List CI))) :=
  let bs := befs ops.toList []
  let pm := canonGo cis.length bs (isPiv cis bs) cis.length []
  if drawOK ops cis bs pm then some (pm.map fun j => (cis.getD j default, if isPiv cis bs j then some (rch cis bs pm j) else none)) else none

def cCode (P : Program) (nt : Nat) : Code → Option AC
  | .skip => some .skip
  | .region _ ops draw => match cCIs P ops nt ops.toList with
    | some l => if draw then (cDraw ops l).map .rd else some (.rg l)
    | none => none
  | .seq a b => match cCode P nt a, cCode P nt b with
    | some a, some b => some (.seq a b)
    | _, _ => none
  | .cond c a b => match cOpd c, cCode P nt a, cCode P nt b with
    | some c, some a, some b => some (.cond c a b)
    | _, _, _ => none
  | .block id a => (cCode P nt a).map (.block id)
  | .loop a => (cCode P nt a).map .loop
  | .exit id => some (.exit id)
  | .ret => some .ret
  | .label _ => some .skip
  | .scope a => cCode P nt a
  | .rangeFunc f ps asg bod => match cOpd f, cCode P nt asg, cCode P nt bod with
    | some f, some a, some b => if ps.toList.all (fun p => decide (p < nt)) then some (.rfn f ps.toList a b (ps, asg, bod)) else none
    | _, _, _ => none
  | _ => none

structure AF where
  nt : Nat
  res : List (Nat × Option (Nat × Bool))
  code : AC
  deriving Inhabited

def cRes (P : Program) : List ResultVar → Option (List (Nat × Option (Nat × Bool)))
  | [] => some []
  | .tmp t :: r => (cRes P r).map ((t, none) :: ·)
  | .cell a T :: r => match szT P T, cRes P r with
    | some x, some l => some ((a, some x) :: l)
    | _, _ => none

def cFun (P : Program) (f : FuncId) : Option AF :=
  match P.funcs[f]? with
  | some fn => match fn.body, cRes P fn.results.toList with
    | some b, some rs => match cCode P fn.ntmps b with
      | some c => some ⟨fn.ntmps, rs, c⟩
      | none => none
    | _, _ => none
  | none => none

end Go.KL
