/- The state, what a pure step answers, and what the small code asks of a state. -/
import Derived.Test.YtjjdfplonbgpbaaDoorKL4
set_option linter.unusedVariables false
namespace Go.KL
open Go Go.RowKit

structure St where
  fr : List (Nat × D)
  S : List O
  tk : List (Nat × TypeId × Nat)

structure Env where
  P : Program
  G : Nat → Option (List D)
  hG : ∀ g e, G g = some e → ∀ n m, scL n m e = true
  hmix : P.follows .mixedOrders = true

def ev (E : Env) (fr : List (Nat × D)) : Opd → D
  | .t i => get fr i
  | .k d => d
  | .g g => match E.G g with
    | some e => .pe e 0
    | none => .top

def evs (E : Env) (fr : List (Nat × D)) : List Opd → List D
  | [] => []
  | x :: r => ev E fr x :: evs E fr r

/-! ## pure steps -/

def rdC (cs : List D) (off n : Nat) (ag : Bool) : Option D :=
  if ag = true then (if off + n ≤ cs.length then some (.agg ((cs.drop off).take n)) else none) else cs[off]?

def allLeaf : List D → Bool
  | [] => true
  | d :: l => d.leaf && allLeaf l

/-- parts of a struct or an array: offset, cells, value -/
def fillD (zs : List D) : List (Nat × Nat × D) → Option (List D)
  | [] => some zs
  | (o, s, d) :: r => if d.var = true ∧ d.cs.length = s ∧ o + s ≤ zs.length then fillD (zs.take o ++ d.cs ++ zs.drop (o + s)) r else none

def fillS (sz : Nat) (es : List (List D)) : List (Nat × D) → Option (List (List D))
  | [] => some es
  | (i, d) :: r => if d.var = true ∧ d.cs.length = sz ∧ allLeaf d.cs = true ∧ i < es.length then fillS sz (es.set i d.cs) r else none

/-- a slice that is made of parts: all its room is taken -/
def mkS : List (List D) → D
  | [] => .full []
  | [.int .u8 n] :: r => .full ([.int .u8 n] :: r)
  | e :: r => .sl (e :: r)

def evP (E : Env) (fr : List (Nat × D)) : List (Nat × Nat × Opd) → List (Nat × Nat × D)
  | [] => []
  | (o, s, x) :: r => (o, s, ev E fr x) :: evP E fr r

def evQ (E : Env) (fr : List (Nat × D)) : List (Nat × Opd) → List (Nat × D)
  | [] => []
  | (i, x) :: r => (i, ev E fr x) :: evQ E fr r

def eqLeaf : LK → D → D → Option Bool
  | .i, .int k a, .int k' b => if k = k' then some (decide (a = b)) else none
  | .b, .bool a, .bool b => some (a == b)
  | .s, .str a, .str b => some (decide (a = b))
  | _, _, _ => none

def eqPl (xs ys : List D) : List (Nat × LK) → Option Bool
  | [] => some true
  | (j, k) :: r => match xs[j]?, ys[j]? with
    | some x, some y => match eqLeaf k x y, eqPl xs ys r with
      | some a, some b => some (a && b)
      | _, _ => none
    | _, _ => none

def isPtr : D → Bool
  | .pe _ _ | .po _ _ | .pv _ _ _ _ => true
  | _ => false

def eqAgg (pl : List (Nat × LK)) : D → D → Option Bool
  | .agg xs, .agg ys => eqPl xs ys pl
  | _, _ => none

def eqPtr : D → D → Option Bool
  | .nilp, .nilp => some true
  | .nilp, y => if isPtr y = true then some false else none
  | x, .nilp => if isPtr x = true then some false else none
  | _, _ => none

def eqSl : D → D → Option Bool
  | .nilsl, .nilsl => some true
  | .sl (_ :: _), .nilsl => some false
  | _, _ => none

def eqMap : D → D → Option Bool
  | .nilmap, .nilmap => some true
  | .nilmap, .map _ => some false
  | .map _, .nilmap => some false
  | _, _ => none

def eqFn : D → D → Option Bool
  | .nilfn, .nilfn => some true
  | .nilfn, .fn _ _ => some false
  | .fn _ _, .nilfn => some false
  | .nilfn, .bm _ _ _ => some false
  | .bm _ _ _, .nilfn => some false
  | _, _ => none

def eqD (q : EqK) (x y : D) : Option Bool :=
  match q with
  | .leaf => none
  | .leafB => eqLeaf .b x y
  | .agg pl => eqAgg pl x y
  | .ptr => eqPtr x y
  | .slice => eqSl x y
  | .map => eqMap x y
  | .fn => eqFn x y

def bitsD (op : BinOp) (k : IntKind) (x y : Int) : Option Int :=
  match op with
  | .and => some (k.wrap (BitVec.ofInt k.bits x &&& BitVec.ofInt k.bits y).toNat)
  | .or => some (k.wrap (BitVec.ofInt k.bits x ||| BitVec.ofInt k.bits y).toNat)
  | .xor => some (k.wrap (BitVec.ofInt k.bits x ^^^ BitVec.ofInt k.bits y).toNat)
  | .andNot => some (k.wrap (BitVec.ofInt k.bits x &&& ~~~ BitVec.ofInt k.bits y).toNat)
  | _ => none

def intD (op : BinOp) (k : IntKind) (a b : Int) : Option D :=
  match op with
  | .add => some (.int k (k.wrap (a + b)))
  | .sub => some (.int k (k.wrap (a - b)))
  | .mul => some (.int k (k.wrap (a * b)))
  | .quo => if b = 0 then none else some (.int k (k.wrap (a.tdiv b)))
  | .rem => if b = 0 then none else some (.int k (a.tmod b))
  | .eql => some (.bool (decide (a = b)))
  | .neq => some (.bool (!decide (a = b)))
  | .lss => some (.bool (decide (a < b)))
  | .leq => some (.bool (decide (a ≤ b)))
  | .gtr => some (.bool (decide (b < a)))
  | .geq => some (.bool (decide (b ≤ a)))
  | .and | .or | .xor | .andNot => (bitsD op k a b).map (.int k)
  | _ => none

def strD (op : BinOp) (a b : ByteArray) : Option D :=
  match op with
  | .add => if a.size + b.size ≤ 9223372036854775807 then some (.str (a ++ b)) else none
  | .eql => some (.bool (decide (a = b)))
  | .neq => some (.bool (!decide (a = b)))
  | .lss => some (.bool (Op.bytesLess a.toList b.toList))
  | .leq => some (.bool (Op.bytesLess a.toList b.toList || decide (a = b)))
  | .gtr => some (.bool (!(Op.bytesLess a.toList b.toList || decide (a = b))))
  | .geq => some (.bool (!Op.bytesLess a.toList b.toList))
  | _ => none

def binD (op : BinOp) (q : EqK) (x y : D) : Option D :=
  match x, y with
  | .int k a, .int k' b =>
    match op with
    | .shl => if b < 0 then none else some (.int k (k.wrap (a * 2 ^ (min b.toNat k.bits))))
    | .shr => if b < 0 then none else some (.int k (a.fdiv (2 ^ (min b.toNat k.bits))))
    | op => if k = k' then intD op k a b else none
  | .str a, .str b => strD op a b
  | x, y => match op with
    | .eql => (eqD q x y).map .bool
    | .neq => (eqD q x y).map fun b => .bool (!b)
    | _ => none

def unD (op : UnOp) (x : D) : Option D :=
  match op, x with
  | .neg, .int k n => some (.int k (k.wrap (0 - n)))
  | .not, .bool b => some (.bool (!b))
  | _, _ => none

def ptrAdd (off : Nat) : D → Option D
  | .pe e o => some (.pe e (o + off))
  | .po id o => some (.po id (o + off))
  | .pv id n i j => some (.pv id n i (j + off))
  | _ => none

def bnd (n : Nat) : Option D → Nat → Option Nat
  | none, d => some d
  | some (.int _ i), _ => if 0 ≤ i ∧ i ≤ n then some i.toNat else none
  | some _, _ => none

def slD (sz : Nat) (x : D) (lo hi mx : Option D) : Option D :=
  match x with
  | .osl id off n sz' => if sz' = sz ∧ mx = none then
      match bnd n hi n with
      | some h => match bnd h lo 0 with
        | some l => if l < n then some (.osl id (off + l * sz) (h - l) sz) else none
        | none => none
      | none => none
    else none
  | x => match x.rd with
    | some es => if ∀ e ∈ es, e.length = sz then
        match mx with
        | none => match bnd es.length hi es.length with
          | some h => match bnd h lo 0 with
            | some l => some (.sl ((es.take h).drop l))
            | none => none
          | none => none
        | some m => match bnd es.length (some m) 0 with
          | some m => match bnd m hi 0 with
            | some h => match bnd h lo 0 with
              | some l => if h = m then some (.full ((es.take h).drop l)) else some (.sl ((es.take h).drop l))
              | none => none
            | none => none
          | none => none
      else none
    | none => none

def strSl (s : ByteArray) (lo hi : Option D) : Option D :=
  match bnd s.size hi s.size with
  | some h => match bnd h lo 0 with
    | some l => some (.str (s.extract l h))
    | none => none
  | none => none

def mmD (mx : Bool) : D → List D → Option D
  | d, [] => some d
  | .int k a, .int k' b :: r => if k = k' then mmD mx (.int k (if mx = true then (if b > a then b else a) else (if b < a then b else a))) r else none
  | _, _ => none

def lenD (S : List O) (q : Nat) (d : D) : Option Int :=
  match q with
  | 0 => match d with
    | .str s => some s.size
    | _ => none
  | 1 => match d with
    | .osl _ _ n _ => some n
    | .vec _ n _ => some n
    | d => match d.rd with
      | some es => some es.length
      | none => none
  | _ => match d with
    | .map id => match S[id]? with
      | some (.map _ kv _) => some kv.length
      | _ => none
    | .nilmap => some 0
    | _ => none

def iaD (sz : Nat) (x i : D) : Option D :=
  match i with
  | .int _ n => if 0 ≤ n then match x with
      | .osl id off m sz' => if sz' = sz ∧ n.toNat < m then some (.po id (off + n.toNat * sz)) else none
      | .vec id m sz' => if sz' = sz ∧ n.toNat < m then some (.pv id m n.toNat 0) else none
      | x => match x.rd with
        | some es => match es[n.toNat]? with
          | some e => if e.length = sz then some (.pe e 0) else none
          | none => none
        | none => none
    else none
  | _ => none

def ldV (S : List O) (id m i j n : Nat) (ag : Bool) : Option D :=
  match S[id]? with
  | some (.vec es _ _) => if es.length = m then match es[i]? with
      | some row => rdC row j n ag
      | none => none
    else none
  | _ => none

def mgD (kt : KT) (z : D) (ok : Bool) (S : List O) (x k : D) : Option D :=
  match x with
  | .nilmap => if kOK kt k = true then some (if ok = true then .tup [z, .bool false] else z) else none
  | .map id => match S[id]? with
    | some (.map kt' kv _) => if kt' = kt ∧ kOK kt k = true then some (if ok = true then .tup [mget z kv k, .bool (mfind kv k).isSome] else mget z kv k) else none
    | _ => none
  | _ => none

def entD (S : List O) (x : D) : Option D :=
  match x with
  | .po id 0 => match S[id]? with
    | some (.iter mid _ seen last) => match seen.getLast?, S[mid]? with
      | some n, some (.map _ kv clk) => if clk = last then (kv.find? fun p => p.2.2 == n).map fun p => .tup [p.1, p.2.1] else none
      | _, _ => none
    | _ => none
  | _ => none

/-- what is appended -/
def srcD (S : List O) (sz : Nat) : D → Option (List (List D))
  | .vec id n _ => match S[id]? with
    | some (.vec es _ sz') => if sz' = sz ∧ es.length = n then some es else none
    | _ => none
  | .osl id off n sz' => match S[id]? with
    | some (.arr cs) => if sz' = sz ∧ off + n * sz ≤ cs.length then some (chunks sz n (cs.drop off)) else none
    | _ => none
  | d => d.rd

/-- a row of bytes, as numbers -/
def u8L : List (List D) → Option (List Int)
  | [] => some []
  | [.int .u8 n] :: r => (u8L r).map (n :: ·)
  | _ => none
def bytesOf (ns : List Int) : ByteArray := ns.foldl (fun r n => r.push (UInt8.ofNat n.toNat)) ByteArray.empty

def pv (E : Env) (fr : List (Nat × D)) (S : List O) : Ins → Option D
  | .mv x => some (ev E fr x)
  | .pick c a b => match ev E fr c with
    | .bool t => some (if t = true then ev E fr a else ev E fr b)
    | _ => none
  | .build zs parts => (fillD zs (evP E fr parts)).map .agg
  | .buildS n sz zs parts _ => (fillS sz (List.replicate n zs) (evQ E fr parts)).map mkS
  | .ld n ag x => match ev E fr x with
    | .pe e off => rdC e off n ag
    | .po id off => match S[id]? with
      | some (.arr cs) => rdC cs off n ag
      | _ => none
    | .pv id m i j => ldV S id m i j n ag
    | _ => none
  | .nilck x => match ev E fr x with
    | .pe e o => some (.pe e o)
    | .po i o => some (.po i o)
    | .pv a b i j => some (.pv a b i j)
    | .fn f c => some (.fn f c)
    | _ => none
  | .bin op q x y => binD op q (ev E fr x) (ev E fr y)
  | .un op x => unD op (ev E fr x)
  | .conv k x => match ev E fr x with
    | .int _ n => some (.int k (k.wrap n))
    | _ => none
  | .convS x => match ev E fr x with
    | .str s => some (.str s)
    | _ => none
  | .b2s x => ((srcD S 1 (ev E fr x)).bind u8L).map fun ns => .str (bytesOf ns)
  | .mkfn f caps => some (.fn f (evs E fr caps))
  | .fa off x => ptrAdd off (ev E fr x)
  | .fd off n ag x => match ev E fr x with
    | .agg cs => rdC cs off n ag
    | _ => none
  | .ia sz x i => iaD sz (ev E fr x) (ev E fr i)
  | .iaA len sz x i => match ev E fr i with
    | .int _ n => if 0 ≤ n ∧ n < len then ptrAdd (n.toNat * sz) (ev E fr x) else none
    | _ => none
  | .ixA len sz ag x i => match ev E fr i, ev E fr x with
    | .int _ n, .agg cs => if 0 ≤ n ∧ n < len then rdC cs (n.toNat * sz) sz ag else none
    | _, _ => none
  | .ixS x i => match ev E fr i, ev E fr x with
    | .int _ n, .str s => if 0 ≤ n then match s[n.toNat]? with
        | some b => some (.int .u8 b.toNat)
        | none => none
      else none
    | _, _ => none
  | .slS x lo hi => match ev E fr x with
    | .str s => strSl s (lo.map (ev E fr)) (hi.map (ev E fr))
    | _ => none
  | .slL sz x lo hi mx => slD sz (ev E fr x) (lo.map (ev E fr)) (hi.map (ev E fr)) (mx.map (ev E fr))
  | .ext i x => match ev E fr x with
    | .tup l => l[i]?
    | _ => none
  | .len q x => (lenD S q (ev E fr x)).map (.int .i64)
  | .lenA n => some (.int .i64 n)
  | .mm mx xs => match evs E fr xs with
    | d :: r => mmD mx d r
    | [] => none
  | .mget kt z ok x k => mgD kt z ok S (ev E fr x) (ev E fr k)
  | .ent x => entD S (ev E fr x)
  | .mkbm f fs caps => some (.bm f (evs E fr fs) (evs E fr caps))
  | _ => none

def resD (fr : List (Nat × D)) (S : List O) : List (Nat × Option (Nat × Bool)) → Option (List D)
  | [] => some []
  | (t, none) :: r => (resD fr S r).map (get fr t :: ·)
  | (t, some (n, ag)) :: r => match (match get fr t with
      | .pe e off => rdC e off n ag
      | .po id off => match S[id]? with
        | some (.arr cs) => rdC cs off n ag
        | _ => none
      | _ => none), resD fr S r with
    | some d, some l => some (d :: l)
    | _, _ => none

def tupD : List D → D
  | [d] => d
  | l => .tup l

/-! ## the relation with the globals; calls -/

def GRel (E : Env) (c : Cfg) : Prop := ∀ g e, E.G g = some e → V c (.pointer (some ⟨g, 0, none⟩)) (.pe e 0)

structure RelE (E : Env) (B : Nat) (w0 : World) (c : Cfg) (S : List O) (tk : List (Nat × TypeId × Nat)) (w : World) : Prop where
  s : RelS B w0 c S tk w
  g : GRel E c

def VL (c : Cfg) (vs : Array Value) (ds : List D) : Prop := vs.size = ds.length ∧ ∀ (j : Nat) v d, vs[j]? = some v → ds[j]? = some d → V c v d

def ACalls (E : Env) (f : FuncId) (ds : List D) (S : List O) (tk : List (Nat × TypeId × Nat)) (Post : D → List O → List (Nat × TypeId × Nat) → Prop) : Prop :=
  ∀ B w0 c w vs, RelE E B w0 c S tk w → VL c vs ds →
    Calls E.P f vs w (fun e w' => ∃ v c' r S' tk', e = .returned v ∧ c.Le c' ∧ RelE E B w0 c' S' tk' w' ∧ V c' v r ∧ Post r S' tk')

/-- a call of a loop's round -/
def AYields (E : Env) (id : Nat) (ds : List D) (S : List O) (tk : List (Nat × TypeId × Nat)) (Post : D → List O → List (Nat × TypeId × Nat) → Prop) : Prop :=
  ∀ B w0 c w vs, RelE E B w0 c S tk w → VL c vs ds →
    YieldAt Fence.wide 0 E.P (c.μ id) vs w (fun e w' => ∃ v c' r S' tk', e = .returned v ∧ c.Le c' ∧ RelE E B w0 c' S' tk' w' ∧ V c' v r ∧ Post r S' tk')

/-- a function without a body, that only reckons -/
def AExt (E : Env) (f : FuncId) (ds : List D) (d : D) : Prop :=
  ∀ B w0 c S tk w vs, RelE E B w0 c S tk w → VL c vs ds → ∃ v, (callFunc f vs).run E.P w = .ok (.value v) w ∧ V c v d

theorem ACalls.mono {E f ds S tk P1 P2} (h : ACalls E f ds S tk P1) (hp : ∀ r S' tk', P1 r S' tk' → P2 r S' tk') : ACalls E f ds S tk P2 :=
  fun B w0 c w vs hr hv => (h B w0 c w vs hr hv).mono fun e w' ⟨v, c', r, S', tk', h1, h2, h3, h4, h5⟩ => ⟨v, c', r, S', tk', h1, h2, h3, h4, hp _ _ _ h5⟩

/-! ## what the small code asks -/

inductive X where
  | nm | ex (id : Nat) | rt

def setC (cs : List D) (off : Nat) (l : List D) : List D := cs.take off ++ l ++ cs.drop (off + l.length)

abbrev Tks := List (Nat × TypeId × Nat)


/-- append -/
def appP (e : TypeId) (sz bytes : Nat) (src : List (List D)) (S : List O) (tk : Tks) (K : D → List O → Tks → Prop) : D → Prop
  | .gsl es t => (tk[t]? = some (es.length, e, sz) ∧ (∀ s ∈ src, s.length = sz) ∧ es.length + src.length ≤ maxLen ∧ (es.length + src.length) * bytes ≤ 140737488355328) ∧
      K (.gsl (es ++ src) t) S (tk.set t ((es ++ src).length, e, sz))
  | .vec id n _ => match S[id]? with
    | some (.vec es e' sz') => (es.length = n ∧ e' = e ∧ sz' = sz ∧ (∀ s ∈ src, s.length = sz) ∧ es.length + src.length ≤ maxLen ∧ (es.length + src.length) * bytes ≤ 140737488355328) ∧
      K (.vec id (es ++ src).length sz) (S.set id (.vec (es ++ src) e sz)) tk
    | _ => False
  | .nilsl | .full [] => ((∀ s ∈ src, s.length = sz) ∧ src.length ≤ maxLen ∧ src.length * bytes ≤ 140737488355328) ∧
      (K (.gsl src tk.length) S (tk ++ [(src.length, e, sz)]) ∨ K (.vec S.length src.length sz) (S ++ [.vec src e sz]) tk)
  | .sl es => src = [] ∧ K (.sl es) S tk
  | .full es => (src ≠ [] ∧ (∀ s ∈ es, s.length = sz) ∧ (∀ s ∈ src, s.length = sz) ∧ es.length + src.length ≤ maxLen ∧ (es.length + src.length) * bytes ≤ 140737488355328) ∧
      K (.vec S.length (es ++ src).length sz) (S ++ [.vec (es ++ src) e sz]) tk
  | _ => False

/-- the next entry of a map that is ranged over -/
def nxtP (S : List O) (tk : Tks) (K : D → List O → Tks → Prop) : D → Prop
  | .po id 0 => match S[id]? with
    | some (.iter mid since seen last) => match S[mid]? with
      | some (.map kt kv clk) => (seen = [] ∨ kv = [] ∨ ∃ p ∈ kv, p.2.2 < last) ∧
          (∀ p ∈ kv, p.2.2 ∉ seen → K (.tup [.bool true, p.1, p.2.1]) (S.set id (.iter mid since (seen ++ [p.2.2]) clk)) tk) ∧
          ((∀ p ∈ kv, p.2.2 < since → p.2.2 ∈ seen) → K (.tup [.bool false]) S tk)
      | _ => False
    | some .iter0 => K (.tup [.bool false]) S tk
    | _ => False
  | _ => False

/-- one step; K: what goes on, with the value, the objects and the tokens -/
def aop (E : Env) (i : Ins) (fr : List (Nat × D)) (S : List O) (tk : Tks) (K : D → List O → Tks → Prop) : Prop :=
  match i with
  | .alloc zs _ => K (.po S.length 0) (S ++ [.arr zs]) tk
  | .box x _ => ((ev E fr x).var = true ∧ allLeaf (ev E fr x).cs = true) ∧ K (.po S.length 0) (S ++ [.arr (ev E fr x).cs]) tk
  | .st n x v => match ev E fr x with
    | .po id off => match S[id]? with
      | some (.arr cs) => ((ev E fr v).var = true ∧ allLeaf (ev E fr v).cs = true ∧ (ev E fr v).cs.length = n ∧ off + n ≤ cs.length) ∧
          K .top (S.set id (.arr (setC cs off (ev E fr v).cs))) tk
      | _ => False
    | .pv id m i j => match S[id]? with
      | some (.vec es e sz) => ∃ row, es[i]? = some row ∧ ((ev E fr v).var = true ∧ allLeaf (ev E fr v).cs = true ∧ (ev E fr v).cs.length = n ∧ es.length = m ∧ j + n ≤ row.length) ∧
          K .top (S.set id (.vec (es.set i (setC row j (ev E fr v).cs)) e sz)) tk
      | _ => False
    | _ => False
  | .app T e sz bytes zs x y => match srcD S sz (ev E fr y) with
    | some src => appP e sz bytes src S tk K (ev E fr x)
    | none => False
  | .call f args => ACalls E f (evs E fr args) S tk K
  | .callv x args => match ev E fr x with
    | .fn f caps => callOK E.P f = true ∧ ACalls E f (evs E fr args ++ caps) S tk K
    | .bm f fs caps => callOK E.P f = true ∧ ACalls E f (fs ++ evs E fr args ++ caps) S tk K
    | .yld id => AYields E id (evs E fr args) S tk K
    | _ => False
  | .extn f args => ∃ d, AExt E f (evs E fr args) d ∧ K d S tk
  | .mkmap kt => K (.map S.length) (S ++ [.map kt [] 0]) tk
  | .mset kt x k v => match ev E fr x with
    | .map id => match S[id]? with
      | some (.map kt' kv clk) => (kt' = kt ∧ kOK kt (ev E fr k) = true) ∧ K .top (S.set id (.map kt (mset kv clk (ev E fr k) (ev E fr v)) (mclk kv clk (ev E fr k)))) tk
      | _ => False
    | _ => False
  | .ment kt z x k => match ev E fr x with
    | .map id => match S[id]? with
      | some (.map kt' kv clk) => (kt' = kt ∧ kOK kt (ev E fr k) = true) ∧
          K (.tup [mget z kv (ev E fr k), .int .i64 (mborn kv clk (ev E fr k))]) (S.set id (.map kt (ment kv clk (ev E fr k) z) (mclk kv clk (ev E fr k)))) tk
      | _ => False
    | _ => False
  | .mest x s v => match ev E fr x, ev E fr s with
    | .map id, .int .i64 n => match S[id]? with
      | some (.map kt kv clk) => (0 ≤ n ∧ ∃ p ∈ kv, p.2.2 = n.toNat) ∧ K .top (S.set id (.map kt (mstamp kv n.toNat (ev E fr v)) clk)) tk
      | _ => False
    | _, _ => False
  | .mdel kt x k => match ev E fr x with
    | .nilmap => kOK kt (ev E fr k) = true ∧ K (.tup []) S tk
    | .map id => match S[id]? with
      | some (.map kt' kv clk) => (kt' = kt ∧ kOK kt (ev E fr k) = true) ∧ K (.tup []) (S.set id (.map kt (mdel kv (ev E fr k)) clk)) tk
      | _ => False
    | _ => False
  | .rngM x => match ev E fr x with
    | .nilmap => K (.po S.length 0) (S ++ [.iter0]) tk
    | .map id => match S[id]? with
      | some (.map _ _ clk) => K (.po S.length 0) (S ++ [.iter id clk [] clk]) tk
      | _ => False
    | _ => False
  | .nxt x => nxtP S tk K (ev E fr x)
  | .mksl e sz bytes zs l c => match ev E fr l, ev E fr c with
    | .int _ n, .int _ m => (0 ≤ n ∧ n = m ∧ n ≤ 4611686018427387904 ∧ n.toNat * bytes ≤ 140737488355328) ∧
        K (.osl S.length 0 n.toNat sz) (S ++ [.arr (List.replicate n.toNat zs).flatten]) tk
    | _, _ => False
  | i => match pv E fr S i with
    | some d => K d S tk
    | none => False

def putf (dst : Option Nat) (d : D) (fr : List (Nat × D)) : List (Nat × D) :=
  match dst with
  | some t => (t, d) :: fr
  | none => fr

/-- one guarded step -/
def gD (E : Env) (ci : CI) (fr : List (Nat × D)) (S : List O) (tk : Tks) (K : D → List O → Tks → Prop) : Prop :=
  match ci.grd with
  | none => aop E ci.ins fr S tk K
  | some (t, b) => match get fr t with
    | .bool b' => (b' = b → aop E ci.ins fr S tk K) ∧ (b' ≠ b → K .und S tk)
    | .und => K .und S tk
    | _ => False

def aops (E : Env) : List CI → St → (St → Prop) → Prop
  | [], st, K => K st
  | ci :: r, st, K => gD E ci st.fr st.S st.tk fun d S' tk' => aops E r ⟨putf ci.dst d st.fr, S', tk'⟩ K

/-- a step that must answer one thing, and change no object -/
def aq1 (E : Env) (i : Ins) (fr : List (Nat × D)) (S : List O) (tk : Tks) (K : D → Prop) : Prop :=
  match i with
  | .call f args => ∃ d, ACalls E f (evs E fr args) S tk (fun r S' tk' => r = d ∧ S' = S ∧ tk' = tk) ∧ K d
  | .callv x args => match ev E fr x with
    | .fn f caps => callOK E.P f = true ∧ ∃ d, ACalls E f (evs E fr args ++ caps) S tk (fun r S' tk' => r = d ∧ S' = S ∧ tk' = tk) ∧ K d
    | .bm f fs caps => callOK E.P f = true ∧ ∃ d, ACalls E f (fs ++ evs E fr args ++ caps) S tk (fun r S' tk' => r = d ∧ S' = S ∧ tk' = tk) ∧ K d
    | _ => False
  | .extn f args => ∃ d, AExt E f (evs E fr args) d ∧ K d
  | i => match pv E fr S i with
    | some d => K d
    | none => False

def gQ (E : Env) (ci : CI) (fr : List (Nat × D)) (S : List O) (tk : Tks) (K : D → Prop) : Prop :=
  match ci.grd with
  | none => aq1 E ci.ins fr S tk K
  | some (t, b) => match get fr t with
    | .bool b' => (b' = b → aq1 E ci.ins fr S tk K) ∧ (b' ≠ b → K .und)
    | .und => K .und
    | _ => False

/-- a region without an order, in the order that was chosen: the Bool: this step stands in order with all that read or change an object -/
def getd (fr : List (Nat × D)) : Option Nat → D
  | some t => get fr t
  | none => .top
def chks (E : Env) : List CI → List (Nat × D) → List O → Tks → Prop → Prop
  | [], _, _, _, X => X
  | c :: r, fr, S, tk, X => gQ E c fr S tk fun d => d = getd fr c.dst ∧ chks E r fr S tk X

def aqs (E : Env) : List (CI × Option (List CI)) → St → (St → Prop) → Prop
  | [], st, K => K st
  | (ci, some rs) :: r, st, K => gD E ci st.fr st.S st.tk fun d S' tk' => chks E rs st.fr S' tk' (aqs E r ⟨putf ci.dst d st.fr, S', tk'⟩ K)
  | (ci, none) :: r, st, K => gQ E ci st.fr st.S st.tk fun d => aqs E r ⟨putf ci.dst d st.fr, st.S, st.tk⟩ K

def Shift (E : Env) (n0 m0 : Nat) (st st' : St) : Prop :=
  ∀ (B : Nat) (w0 : World) (c0 c : Cfg) (w : World) (tmps : Array Value), c0.Le c → c0.n = n0 → c0.m = m0 → RelE E B w0 c st.S st.tk w → FRel c tmps st.fr →
    ∃ c', c0.Le c' ∧ RelE E B w0 c' st'.S st'.tk w ∧ FRel c' tmps st'.fr ∧ ∀ b, b ∈ c.dd → b ∈ c'.dd

theorem Shift.refl (E : Env) (n0 m0 : Nat) (st : St) : Shift E n0 m0 st st := fun _ _ _ c _ _ h _ _ h1 h2 => ⟨c, h, h1, h2, fun _ h => h⟩
theorem Shift.trans {E : Env} {n0 m0 : Nat} {a b c : St} (h : Shift E n0 m0 a b) (k : Shift E n0 m0 b c) : Shift E n0 m0 a c :=
  fun B w0 c0 cc w tmps h0 hn hm h1 h2 => let ⟨c', a1, a2, a3, a4⟩ := h B w0 c0 cc w tmps h0 hn hm h1 h2; let ⟨c'', b1, b2, b3, b4⟩ := k B w0 c0 c' w tmps a1 hn hm a2 a3; ⟨c'', b1, b2, b3, fun b hb => b4 b (a4 b hb)⟩

/-- a loop over a function, whose rounds are this small code -/
structure RoundOf (E : Env) (L : LI) (ps : List Nat) (asg bod : AC) : Prop where
  hps : L.ps.toList = ps
  lt : ∀ p, p ∈ ps → p < L.nt
  hasg : cCode E.P L.nt L.asg = some asg
  hbod : cCode E.P L.nt L.bod = some bod

/-- behind a loop over a function -/
def rfnP (L : LI) (st : St) (Q : X → St → Prop) (r : D) (S' : List O) (tk' : Tks) : Prop :=
  ∃ stt pend, S'[st.S.length]? = some (.lp L st.fr stt pend) ∧ stt ≠ .busy ∧ match pend with
    | none => Q .nm ⟨st.fr, S'.set st.S.length (.lp L st.fr .exhausted none), tk'⟩
    | some .ret => Q .rt ⟨st.fr, S'.set st.S.length (.lp L st.fr .exhausted (some .ret)), tk'⟩
    | some (.exit i) => Q (.ex i) ⟨st.fr, S'.set st.S.length (.lp L st.fr .exhausted (some (.exit i))), tk'⟩
    | _ => False

def AWp (E : Env) (n0 m0 : Nat) : AC → St → (X → St → Prop) → Prop
  | .skip, st, Q => Q .nm st
  | .rg l, st, Q => aops E l st (Q .nm)
  | .rd l, st, Q => aqs E l st (Q .nm)
  | .seq a b, st, Q => AWp E n0 m0 a st fun x st' => match x with
    | .nm => ∃ st'', Shift E n0 m0 st' st'' ∧ AWp E n0 m0 b st'' Q
    | x => Q x st'
  | .cond c a b, st, Q => match ev E st.fr c with
    | .bool t => (t = true → AWp E n0 m0 a st Q) ∧ (t = false → AWp E n0 m0 b st Q)
    | _ => False
  | .block id a, st, Q => AWp E n0 m0 a st fun x st' => match x with
    | .ex id' => if id' = id then Q .nm st' else Q (.ex id') st'
    | x => Q x st'
  | .loop a, st, Q => ∃ (I : Nat → St → Prop) (n : Nat) (st0 : St), Shift E n0 m0 st st0 ∧ I n st0 ∧
      ∀ n st, I n st → AWp E n0 m0 a st fun x st' => match x with
        | .nm => ∃ n' st'', n' < n ∧ Shift E n0 m0 st' st'' ∧ I n' st''
        | x => Q x st'
  | .exit id, st, Q => Q (.ex id) st
  | .ret, st, Q => Q .rt st
  | .cut _ _, _, _ => False
  | .rfn f ps asg bod _, st, Q => match ev E st.fr f with
    | .fn g caps => callOK E.P g = true ∧ ∀ L, RoundOf E L ps asg bod → ACalls E g (.yld st.S.length :: caps) (st.S ++ [.lp L st.fr .ready none]) st.tk (rfnP L st Q)
    | _ => False

end Go.KL
