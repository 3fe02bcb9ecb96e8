import Derived.Test.YtbcjgolkcfdnfaaSimA
/- Sim, second text: what code asks of the abstract memory. Definitions; no condition. -/
namespace Go.Proofs.Ytbcjgolkcfdnfaa.Sim
open Go

inductive Ex where
  | normal
  | exit (id : Nat)
  | ret
  | pan (v : Value)

/-- A call that is made when the function leaves. -/
structure Df where
  f : FuncId
  args : List Value

/-- A running function: its slots; its variables that nobody else knows (which version, which cells), by the slot that made them; its deferred calls. -/
structure A where
  t : Nat → Value
  l : Nat → Option (Nat × List Value)
  d : List Df

def A.put (a : A) (dst : Option Tmp) (v : Value) : A :=
  match dst with
  | some d => { a with t := fun i => cond (Nat.beq i d) v (a.t i) }
  | none => a
def A.ev (a : A) : Operand → Value
  | .tmp t => a.t t
  | .const v => v
  | .func f => .func (.func f) #[] #[]
  | .global _ => .chan none
/-- What is left of a running function where it is ended by a panic. -/
def A.bare (a : A) : A := { t := fun _ => undef, l := fun _ => none, d := a.d }
def A.loc (a : A) (s v : Nat) (c : List Value) : A := { a with l := fun i => cond (Nat.beq i s) (some (v, c)) (a.l i) }
def A.ver (a : A) (s : Nat) : Nat := match a.l s with | some (v, _) => v + 1 | none => 0

def St.row (s : St) (i : Nat) : Option (List Value) :=
  match s.heap i with
  | some (.var c) => some c
  | some (.arr c f own _) => if own || !s.dead f then some c else none
  | _ => none
def St.upd (s : St) (i : Nat) (o : Ob) : St := { s with heap := fun j => if j = i then some o else s.heap j }
def St.new (s : St) (o : Ob) : St := { s with heap := fun j => if j = s.next then some o else s.heap j, next := s.next + 1 }
def St.del (s : St) (i : Nat) : St := { s with heap := fun j => if j = i then none else s.heap j }
def St.bump (s : St) : St := { s with next := s.next + 1 }
def St.kill (s : St) (f : Nat) : St := { s with dead := fun j => if j = f then true else s.dead j }

/-- A string by its bytes. -/
def ofL (l : List UInt8) : ByteArray := ⟨⟨l⟩⟩
/-- So many cells from there on. -/
def sub (c : List Value) (off n : Nat) : Option (List Value) := cond (Nat.ble (off + n) c.length) (some ((c.drop off).take n)) none
/-- Cells with others put into them from there on. -/
def spl (c : List Value) (off : Nat) (v : List Value) : Option (List Value) := cond (Nat.ble (off + v.length) c.length) (some (c.take off ++ (v ++ c.drop (off + v.length)))) none
def St.rd (s : St) (i off n : Nat) : Option (List Value) := (s.row i).bind fun c => sub c off n

section
variable (P : Program)
def rowT (t : TypeId) : Bool := match P.underlying t with | some d => d.isRow | none => false
def sizeT (t : TypeId) : Nat := match P.info? t with | some i => i.size | none => 0
def bytesT (t : TypeId) : Nat := match P.info? t with | some i => i.bytes | none => 0
def zeroT (t : TypeId) : Option Value := match P.info? t with | some i => i.zero | none => none
def elemT (t : TypeId) : Option TypeId := match P.underlying t with | some (.slice e) => some e | _ => none
def fieldT (t : TypeId) (f : Nat) : Option Field := match P.underlying t with | some (.struct fs) => fs[f]? | _ => none
/-- The value of a type that lies in so many cells. -/
def valT (t : TypeId) (c : List Value) : Value := cond (rowT P t) (.agg c.toArray) (c.headD undef)

def eqX (op : BinOp) (b : Bool) : Option Value :=
  match op with
  | .eql => some (.bool b)
  | .neq => some (.bool (!b))
  | _ => none

/-- Are two values of the plain kinds alike? -/
def alikeX (x y : Value) : Option Bool :=
  match x, y with
  | .int k a, .int k' b => cond (decide (k = k')) (some (a == b)) none
  | .string a, .string b => some (a.data.toList == b.data.toList)
  | .bool a, .bool b => some (a == b)
  | _, _ => none
def plainT (t : TypeId) (x : Value) : Bool :=
  match P.underlying t, x with
  | some (.int _), .int _ _ | some .string, .string _ | some .bool, .bool _ => true
  | _, _ => false
/-- Are two structs of plain fields alike, by these fields? -/
def alikesX (xs ys : Array Value) : List Field → Option Bool
  | [] => some true
  | f :: r => match xs[f.offset]?, ys[f.offset]? with
    | some x, some y => cond (plainT P f.type x && plainT P f.type y && !(f.name == "_") && Nat.beq (sizeT P f.type) 1)
        (match alikeX x y with | some true => alikesX xs ys r | some false => some false | none => none) none
    | _, _ => none

def isConstX : Operand → Bool
  | .const _ => true
  | _ => false

def binX (op : BinOp) (t : TypeId) (kc : Bool) (x y : Value) : Option Value :=
  match x, y with
  | .int k a, .int k' b =>
    cond (decide (k = k'))
      (match op with
      | .add => some (.int k (k.wrap (a + b)))
      | .sub => some (.int k (k.wrap (a - b)))
      | .mul => some (.int k (k.wrap (a * b)))
      | .and => some (.int k (bits .and k a b))
      | .or => some (.int k (bits .or k a b))
      | .xor => some (.int k (bits .xor k a b))
      | .eql => some (.bool (a == b))
      | .neq => some (.bool (a != b))
      | .lss => some (.bool (decide (a < b)))
      | .leq => some (.bool (decide (a ≤ b)))
      | .gtr => some (.bool (decide (a > b)))
      | .geq => some (.bool (decide (a ≥ b)))
      | _ => none) none
  | .string a, .string b => eqX op (a.data.toList == b.data.toList)
  | .bool a, .bool b => match P.underlying t with | some .bool => eqX op (a == b) | _ => none
  | .pointer none, .pointer b => match P.underlying t with | some (.pointer _) => eqX op b.isNone | _ => none
  | .pointer b, .pointer none => match P.underlying t with | some (.pointer _) => eqX op b.isNone | _ => none
  | .slice none _ _, .slice b _ _ => match P.underlying t with | some (.slice _) => eqX op b.isNone | _ => none
  | .slice b _ _, .slice none _ _ => match P.underlying t with | some (.slice _) => eqX op b.isNone | _ => none
  | .nilIface, .nilIface => match kc, P.underlying t with | true, some (.interface _) => eqX op true | _, _ => none
  | .nilIface, .iface _ _ => match P.underlying t with | some (.interface _) => eqX op false | _ => none
  | .iface _ _, .nilIface => match P.underlying t with | some (.interface _) => eqX op false | _ => none
  | .agg xs, .agg ys => match P.underlying t with | some (.struct fs) => (alikesX P xs ys fs.toList).bind (eqX op) | _ => none
  | _, _ => none

/-- Parts put into cells, each at its place. -/
def fillX (place : Nat → Option (Nat × Nat)) : List (Nat × Value) → List Value → Option (List Value)
  | [], c => some c
  | (i, v) :: r, c =>
    match place i with
    | some (off, size) => cond (Nat.beq v.cells.size size && noTup v) (match spl c off v.cells.toList with | some c' => fillX place r c' | none => none) none
    | none => none

/-- A struct or an array that is written out. -/
def buildX (t : TypeId) (parts : List (Nat × Value)) : Option Value :=
  match zeroT P t, P.underlying t with
  | some z, some (.struct fs) => (fillX (fun i => (fs[i]?).map fun f => (f.offset, sizeT P f.type)) parts z.cells.toList).map fun c => .agg c.toArray
  | some z, some (.array _ e) => (fillX (fun i => some (i * sizeT P e, sizeT P e)) parts z.cells.toList).map fun c => .agg c.toArray
  | _, _ => none

/-- What only computes, and always can. -/
def pureX (op : Op) (ev : Operand → Value) : Option Value :=
  match op with
  | .move x | .assign x => some (ev x)
  | .pick c x y => match ev c with | .bool b => some (if b then ev x else ev y) | _ => none
  | .binOp o t x y _ => binX P o t (isConstX x || isConstX y) (ev x) (ev y)
  | .unOp o _ x =>
    match o, ev x with
    | .neg, .int k n => some (.int k (k.wrap (0 - n)))
    | .not, .bool b => some (.bool (!b))
    | .xor, .int k n => some (.int k (bits .xor k (if k.signed then -1 else k.max) n))
    | _, _ => none
  | .fieldAddr t x f =>
    match ev x, fieldT P t f with
    | .pointer (some ad), some fd => cond (Nat.blt 0 (sizeT P fd.type)) (some (.pointer (some ⟨ad.block, ad.off + fd.offset, ad.spot⟩))) none
    | _, _ => none
  | .field t x f =>
    match ev x, fieldT P t f with
    | .agg cs, some fd => (sub cs.toList fd.offset (sizeT P fd.type)).map (valT P fd.type)
    | _, _ => none
  | .extract x i => match ev x with | .tuple vs => vs[i]? | _ => none
  | .nilCheck x => match ev x with | .pointer (some ad) => some (.pointer (some ad)) | _ => none
  | .build t parts => buildX P t (parts.toList.map fun x => (x.1, ev x.2))
  | .convert t u x =>
    match P.underlying t, P.underlying u, ev x with
    | some (.int _), some (.int k), .int _ n => some (.int k (k.wrap n))
    | some .string, some .string, .string b => some (.string b)
    | _, _, _ => none
  | .makeFunc (.func f) first captured => some (.func (.func f) (first.map ev) (captured.map ev))
  | .call { callee := .builtin .max, args, argTypes := _ } =>
    match args.toList with
    | [x, y] => match ev x, ev y with | .int k a, .int _ b => some (.int k (if b > a then b else a)) | _, _ => none
    | _ => none
  | .call { callee := .builtin .min, args, argTypes := _ } =>
    match args.toList with
    | [x, y] => match ev x, ev y with | .int k a, .int _ b => some (.int k (if b < a then b else a)) | _, _ => none
    | _ => none
  | .typeAssert x _ asserted ok =>
    match P.underlying asserted, ev x with
    | some (.interface _), _ => none
    | some _, .iface t v => cond (decide (t = asserted)) (some (cond ok (.tuple #[v, .bool true]) v)) (cond ok ((zeroT P asserted).map fun z => .tuple #[z, .bool false]) none)
    | some _, .nilIface => cond ok ((zeroT P asserted).map fun z => .tuple #[z, .bool false]) none
    | _, _ => none
  | .makeInterface t x => match P.underlying t with | some (.interface _) => none | some _ => some (.iface t (ev x)) | none => none
  | .call { callee := .builtin .len, args, argTypes } =>
    match args.toList, argTypes.toList with
    | [x], [t] =>
      match ev x, P.underlying t with
      | .string s, some .string => some (.int .i64 s.size)
      | .slice _ n _, some (.slice _) => some (.int .i64 n)
      | _, _ => none
    | _, _ => none
  | _ => none

def boundX (ev : Operand → Value) (d : Int) : Option Operand → Option Int
  | none => some d
  | some x => match ev x with | .int _ n => some n | _ => none

/-- What only computes, and can where something holds. -/
def sideX (op : Op) (ev : Operand → Value) : Option (Prop × Value) :=
  match op with
  | .indexAddr t x ix =>
    match ev x, ev ix with
    | .slice (some ad) n _, .int _ i => match elemT P t with
      | some e => some (0 ≤ i ∧ i < n, .pointer (some ⟨ad.block, ad.off + i.toNat * sizeT P e, ad.spot⟩))
      | none => none
    | .pointer (some ad), .int _ i => match P.underlying t with
      | some (.array n e) => some (0 ≤ i ∧ i < n, .pointer (some ⟨ad.block, ad.off + i.toNat * sizeT P e, ad.spot⟩))
      | _ => none
    | _, _ => none
  | .index _ x ix =>
    match ev x, ev ix with
    | .string s, .int _ i => some (0 ≤ i ∧ i < s.size, .int .u8 ((s.data.getD i.toNat 0).toNat : Nat))
    | _, _ => none
  | .binOp o _ x y _ =>
    match o, ev x, ev y with
    | .quo, .int k a, .int k' b => cond (decide (k = k')) (some (b ≠ 0, .int k (k.wrap (a.tdiv b)))) none
    | .rem, .int k a, .int k' b => cond (decide (k = k')) (some (b ≠ 0, .int k (a.tmod b))) none
    | .shl, .int k a, .int _ b => some (0 ≤ b, .int k (k.wrap (a * 2 ^ min b.toNat k.bits)))
    | .shr, .int k a, .int _ b => some (0 ≤ b, .int k (a.fdiv (2 ^ min b.toNat k.bits)))
    | .add, .string a, .string b => some (a.size + b.size ≤ 4611686018427387904, .string (ofL (a.data.toList ++ b.data.toList)))
    | _, _, _ => none
  | .slice t x lo hi none =>
    match ev x, P.underlying t with
    | .string s, some .string =>
      match boundX ev 0 lo, boundX ev s.size hi with
      | some l, some h => some (0 ≤ l ∧ l ≤ h ∧ h ≤ s.size, .string (ofL ((s.data.toList.drop l.toNat).take (h.toNat - l.toNat))))
      | _, _ => none
    | .slice (some ad) n sz, some (.slice e) =>
      match boundX ev 0 lo, boundX ev n hi with
      | some l, some h => cond (Nat.beq (sizeT P e) sz && ad.spot.isNone) (some (0 ≤ l ∧ l ≤ h ∧ h ≤ n, .slice (some ⟨ad.block, ad.off + l.toNat * sz, none⟩) (h.toNat - l.toNat) sz)) none
      | _, _ => none
    | .slice none _ _, some (.slice _) =>
      match boundX ev 0 lo, boundX ev 0 hi with
      | some l, some h => some (l = 0 ∧ h = 0, .slice none 0 0)
      | _, _ => none
    | _, _ => none
  | _ => none

def allocX (esc : List Nat) (dst : Option Tmp) (c : List Value) (K : A → St → Prop) (a : A) (s : St) : Prop :=
  match dst with
  | some d => cond (esc.contains d) (K (a.put dst (.pointer (some ⟨s.next, 0, none⟩))) (s.new (.var c)))
      (K ((a.loc d (a.ver d) c).put dst (.pointer (some ⟨a.ver d, 0, some d⟩))) s)
  | none => False

def loadX (t : TypeId) (ad : Value) (K : Value → Prop) (a : A) (s : St) : Prop :=
  match ad with
  | .pointer (some ⟨i, off, none⟩) => ∃ vs, s.rd i off (sizeT P t) = some vs ∧ K (valT P t vs)
  | .pointer (some ⟨v, off, some d⟩) =>
    match a.l d with
    | some (v', c) => cond (Nat.beq v v') (match sub c off (sizeT P t) with | some vs => K (valT P t vs) | none => False) False
    | none => False
  | _ => False

/-- A row that is written anew. -/
def St.put (s : St) (i : Nat) (c : List Value) : St :=
  match s.heap i with
  | some (.arr _ f _ true) => ((s.kill f).bump).upd i (.arr c s.next true false)
  | some (.arr _ f _ false) => s.upd i (.arr c f true false)
  | _ => s.upd i (.var c)
/-- The cells of what may be written. -/
def St.own (s : St) (i : Nat) : Option (List Value) :=
  match s.heap i with
  | some (.var c) => some c
  | some (.arr c _ true _) => some c
  | _ => none

def storeX (t : TypeId) (ad x : Value) (K : A → St → Prop) (a : A) (s : St) : Prop :=
  cond (Nat.beq x.cells.size (sizeT P t) && noTup x)
    (match ad with
    | .pointer (some ⟨i, off, none⟩) => ∃ c c', s.own i = some c ∧ spl c off x.cells.toList = some c' ∧ K a (s.put i c')
    | .pointer (some ⟨v, off, some d⟩) =>
      match a.l d with
      | some (v', c) => cond (Nat.beq v v') (match spl c off x.cells.toList with | some c' => K (a.loc d v' c') s | none => False) False
      | none => False
    | _ => False) False
end

section
variable (P : Program)
/-- So many elements of this size: of a slice, of a string. -/
def newsX (s : St) (sz : Nat) : Value → Option (List Value × Nat)
  | .slice none _ _ => some ([], 0)
  | .slice (some ⟨j, off, none⟩) n sz' => cond (Nat.beq sz sz') ((s.rd j off (n * sz)).map fun c => (c, n)) none
  | .string b => cond (Nat.beq sz 1) (some (b.data.toList.map fun u => .int .u8 u.toNat, b.size)) none
  | _ => none

/-- What is appended to. -/
def appX (s : St) (sz n : Nat) (news : List Value) (x : Value) (K : Value → St → Prop) : Prop :=
  match x with
  | .slice none _ _ => (n = 0 → K x s) ∧ (0 < n → K (.slice (some ⟨s.next, 0, none⟩) n sz) (s.new (.arr news s.next true false)))
  | .slice (some ⟨i, off, none⟩) len sz' => (n = 0 → K x s) ∧ (0 < n → sz = sz' ∧ ∃ c f kin, s.heap i = some (.arr c f true kin) ∧ off + len * sz ≤ c.length ∧
      (off + len * sz = c.length → K (.slice (some ⟨s.next, 0, none⟩) (len + n) sz) ((s.upd i (.arr c f false kin)).new (.arr (c.drop off ++ news) f true true))) ∧
      (off + len * sz < c.length → K (.slice (some ⟨s.next, 0, none⟩) (len + n) sz) (((s.kill f).del i).new (.arr ((c.drop off).take (len * sz) ++ news) s.next true false))))
  | _ => False

def lenX : Value → Nat
  | .slice _ n _ => n
  | .string s => s.size
  | _ => 0
def isSl : Value → Bool
  | .slice _ _ _ => true
  | _ => false
/-- The first so many elements. -/
def truncX (n : Nat) : Value → Value
  | .slice b _ sz => .slice b n sz
  | _ => undef

/-- Cells put into what a slice shows. -/
def putX (s : St) (d : Value) (cs : List Value) (K : St → Prop) : Prop :=
  match cs, d with
  | [], _ => K s
  | cs, .slice (some ⟨i, off, none⟩) _ _ => ∃ c c', s.own i = some c ∧ spl c off cs = some c' ∧ K (s.put i c')
  | _, _ => False

def byteX : Value → Option UInt8
  | .int .u8 n => some (UInt8.ofNat n.toNat)
  | _ => none

abbrev En := Value × Value × Nat
/-- Keys: numbers of one kind, or strings. -/
def keyB (t : TypeId) (k : Value) : Bool :=
  match P.underlying t, k with
  | some (.int j), .int j' _ => decide (j = j')
  | some .string, .string _ => true
  | _, _ => false
def keyEq (x y : Value) : Bool :=
  match x, y with
  | .int _ a, .int _ b => a == b
  | .string a, .string b => a.data.toList == b.data.toList
  | _, _ => false
def plainKey : Value → Bool
  | .int _ _ | .string _ => true
  | _ => false
def findX (k : Value) : List En → Option En
  | [] => none
  | e :: r => cond (keyEq k e.1) (some e) (findX k r)
def setX (k v : Value) : List En → List En
  | [] => []
  | e :: r => cond (keyEq k e.1) ((e.1, v, e.2.2) :: r) (e :: setX k v r)
def cutX (k : Value) : List En → List En
  | [] => []
  | e :: r => cond (keyEq k e.1) r (e :: cutX k r)
def keysB (t : TypeId) (k : Value) (es : List En) : Bool := keyB P t k && es.all (fun e => keyB P t e.1)
def St.mapAt (s : St) : Value → Option (Nat × List En × Nat)
  | .map (some i) => match s.heap i with | some (.map es c) => some (i, es, c) | _ => none
  | _ => none
/-- A map's entries. -/
def St.ents (s : St) : Value → Option (List En)
  | .map none => some []
  | v => (s.mapAt v).map fun x => x.2.1

def isMapT (t : TypeId) : Option (TypeId × TypeId) := match P.underlying t with | some (.map k e) => some (k, e) | _ => none
def arrT (t : TypeId) : Option (Nat × TypeId) := match P.underlying t with | some (.array n e) => some (n, e) | _ => none

/-- A walk through a map begins. -/
def rangeK (s : St) (x : Value) (K : Value → St → Prop) : Prop :=
  match x with
  | .map none => K (.pointer (some ⟨s.next, 0, none⟩)) (s.new (.iter none 0 [] 0))
  | .map (some i) => ∃ es c, s.heap i = some (.map es c) ∧ K (.pointer (some ⟨s.next, 0, none⟩)) (s.new (.iter (some i) c [] c))
  | _ => False
/-- A step of it: any entry that was not there yet; the end where all old ones were. -/
def nextK (s : St) (j : Nat) (mp : Option Nat) (since : Nat) (seen : List Nat) (last : Nat) (K : Value → St → Prop) : Prop :=
  match mp with
  | none => K (.tuple #[.bool false]) s
  | some i => ∃ es c, s.heap i = some (.map es c) ∧ es.all (fun e => plainKey e.1) = true ∧ (seen = [] ∨ es = [] ∨ es.all (fun e => Nat.ble last e.2.2) = false) ∧
      ((es.filter fun e => !seen.contains e.2.2 && Nat.blt e.2.2 since) = [] → K (.tuple #[.bool false]) s) ∧
      (∀ e ∈ es, seen.contains e.2.2 = false → K (.tuple #[.bool true, e.1, e.2.1]) (s.upd j (.iter (some i) since (seen ++ [e.2.2]) c)))

/-- An operation that does something with what others know, too. -/
def effX (op : Op) (ev : Operand → Value) (s : St) (K : Value → St → Prop) : Prop :=
  match op with
  | .buildSlice t n parts =>
    match elemT P t with
    | some e =>
      match zeroT P e with
      | some z => match fillX (fun i => some (i * sizeT P e, sizeT P e)) (parts.toList.map fun x => (x.1, ev x.2)) ((List.replicate n z.cells.toList).flatten) with
        | some c => K (.slice (some ⟨s.next, 0, none⟩) n (sizeT P e)) (s.new (.arr c s.next true false))
        | none => False
      | none => False
    | none => False
  | .call { callee := .builtin .append, args, argTypes } =>
    match args.toList, argTypes.toList with
    | [x, y], [t, _] =>
      match elemT P t with
      | some e => ∃ news n, newsX s (sizeT P e) (ev y) = some (news, n) ∧ (lenX (ev x) + n) * bytesT P e ≤ 70368744177664 ∧ appX s (sizeT P e) n news (ev x) K
      | none => False
    | _, _ => False
  | .call { callee := .builtin .copy, args, argTypes } =>
    match args.toList, argTypes.toList with
    | [x, y], [t, _] =>
      match elemT P t with
      | some e => ∃ news n, newsX s (sizeT P e) (truncX (min (lenX (ev y)) (lenX (ev x))) (ev y)) = some (news, n) ∧ isSl (ev x) = true ∧ putX s (ev x) news (K (.int .i64 n))
      | none => False
    | _, _ => False
  | .call { callee := .builtin .clear, args, argTypes } =>
    match args.toList, argTypes.toList with
    | [x], [t] =>
      match elemT P t with
      | some e => match zeroT P e with
        | some z => isSl (ev x) = true ∧ putX s (ev x) ((List.replicate (lenX (ev x)) z.cells.toList).flatten) (K (.tuple #[]))
        | none => False
      | none => False
    | _, _ => False
  | .call { callee := .builtin .delete, args, argTypes } =>
    match args.toList, argTypes.toList with
    | [x, k], [t, _] =>
      match isMapT P t with
      | some (kt, _) => ∃ i es c, s.mapAt (ev x) = some (i, es, c) ∧ keysB P kt (ev k) es = true ∧ K (.tuple #[]) (s.upd i (.map (cutX (ev k) es) c))
      | none => False
    | _, _ => False
  | .makeSlice t x y =>
    match elemT P t with
    | some e => match zeroT P e with
      | some z => match ev x, ev y with
        | .int _ l, .int _ c => (0 ≤ l ∧ l ≤ c ∧ c * bytesT P e ≤ 70368744177664) ∧ K (.slice (some ⟨s.next, 0, none⟩) l.toNat (sizeT P e)) (s.new (.arr ((List.replicate l.toNat z.cells.toList).flatten) s.next true false))
        | _, _ => False
      | none => False
    | none => False
  | .slice t x lo hi none =>
    match arrT P t with
    | some (n, e) => match ev x with
      | .pointer (some ⟨i, off, none⟩) =>
        match boundX ev 0 lo, boundX ev n hi with
        | some l, some h => (∃ c, s.row i = some c ∧ off + n * sizeT P e ≤ c.length) ∧ (0 ≤ l ∧ l ≤ h ∧ h ≤ n) ∧ K (.slice (some ⟨i, off + l.toNat * sizeT P e, none⟩) (h.toNat - l.toNat) (sizeT P e)) s
        | _, _ => False
      | _ => False
    | none => False
  | .convert _ _ x => ∃ c n b, newsX s 1 (ev x) = some (c, n) ∧ c.mapM byteX = some b ∧ isSl (ev x) = true ∧ K (.string (ofL b)) s
  | .makeMap _ none => K (.map (some s.next)) (s.new (.map [] 0))
  | .lookup t x k ok =>
    match isMapT P t with
    | some (kt, et) => ∃ es, s.ents (ev x) = some es ∧ keysB P kt (ev k) es = true ∧
      (match findX (ev k) es with
        | some e => K (cond ok (.tuple #[e.2.1, .bool true]) e.2.1) s
        | none => match zeroT P et with | some z => K (cond ok (.tuple #[z, .bool false]) z) s | none => False)
    | none => False
  | .mapUpdate t x k v =>
    match isMapT P t with
    | some (kt, _) => ∃ i es c, s.mapAt (ev x) = some (i, es, c) ∧ keysB P kt (ev k) es = true ∧
      (match findX (ev k) es with
        | some _ => K undef (s.upd i (.map (setX (ev k) (ev v) es) c))
        | none => K undef (s.upd i (.map (es ++ [(ev k, ev v, c)]) (c + 1))))
    | none => False
  | .range t x =>
    match isMapT P t with
    | some _ => rangeK s (ev x) K
    | none => False
  | .next x false =>
    match ev x with
    | .pointer (some ⟨j, 0, none⟩) =>
      ∃ mp since seen last, s.heap j = some (.iter mp since seen last) ∧
        nextK s j mp since seen last K
    | _ => False
  | _ => False

def isEffOp (op : Op) : Bool :=
  match op with
  | .buildSlice _ _ _ | .makeSlice _ _ _ | .makeMap _ _ | .lookup _ _ _ _ | .mapUpdate _ _ _ _ | .range _ _ | .next _ _ => true
  | .call { callee := .builtin .append, .. } | .call { callee := .builtin .copy, .. } | .call { callee := .builtin .clear, .. } | .call { callee := .builtin .delete, .. } => true
  | .slice t _ _ _ _ => (arrT P t).isSome
  | .convert t u _ => (elemT P t).isSome && (match P.underlying u with | some .string => true | _ => false)
  | _ => false
end

/-- How a call ends. -/
inductive Rt where
  | ret (v : Value)
  | pan (v : Value)

/-- A function that can be called: it has a body, and is no function of the machine's own. -/
def callB (P : Program) (f : FuncId) : Bool := match P.funcs[f]? with | some fn => fn.body.isSome && !(fn.name == "runtime.NumGoroutine") | none => false

/-- One operation; C: what is known of calls. -/
def opX (P : Program) (C : FuncId → List Value → St → (Rt → St → Prop) → Prop) (esc : List Nat) (o : Oper) (Q : Ex → A → St → Prop) (K : A → St → Prop) (a : A) (s : St) : Prop :=
  match o.op with
  | .alloc e => match zeroT P e with | some z => allocX esc o.dst z.cells.toList K a s | none => False
  | .box _ x => cond (noTup (a.ev x)) (allocX esc o.dst (a.ev x).cells.toList K a s) False
  | .load t x => loadX P t (a.ev x) (fun v => K (a.put o.dst v) s) a s
  | .store t x y => storeX P t (a.ev x) (a.ev y) (fun a s => K (a.put o.dst undef) s) a s
  | .call { callee := .value (.func f), args, argTypes := _ } =>
    C f (args.toList.map a.ev) s fun r s' => match r with
      | .ret v => K (a.put o.dst v) s'
      | .pan v => Q (.pan v) a s'
  | .call { callee := .value (.tmp t), args, argTypes := _ } =>
    match a.t t with
    | .func (.func f) first captured => callB P f = true ∧ C f (first.toList ++ args.toList.map a.ev ++ captured.toList) s fun r s' => match r with
      | .ret v => K (a.put o.dst v) s'
      | .pan v => Q (.pan v) a s'
    | _ => False
  | .defer { callee := .value (.func f), args, argTypes := _ } => K ({ a with d := ⟨f, args.toList.map a.ev⟩ :: a.d }.put o.dst undef) s
  | .defer { callee := .value (.tmp t), args, argTypes := _ } =>
    match a.t t with
    | .func (.func f) first captured => callB P f = true ∧ K ({ a with d := ⟨f, first.toList ++ args.toList.map a.ev ++ captured.toList⟩ :: a.d }.put o.dst undef) s
    | _ => False
  | .panic x => match a.ev x with
    | .iface t v => Q (.pan (.iface t v)) a s
    | _ => False
  | op => cond (isEffOp P op) (effX P op a.ev s fun v s' => K (a.put o.dst v) s')
    (match pureX P op a.ev with
    | some v => K (a.put o.dst v) s
    | none => match sideX P op a.ev with
      | some (c, v) => c ∧ K (a.put o.dst v) s
      | none => False)

/-- What a guard says: yes, no, nothing (it was not asked itself). -/
def gB : Option Value → Option (Option Bool)
  | some (.bool b) => some (some b)
  | some (.tuple ⟨[]⟩) => some none
  | _ => none

/-- One operation, if its guard says so; g: which slot an operation writes. -/
def gX (P : Program) (C : FuncId → List Value → St → (Rt → St → Prop) → Prop) (esc : List Nat) (g : Nat → Option Tmp) (Q : Ex → A → St → Prop) (o : Oper) (K : A → St → Prop) (a : A) (s : St) : Prop :=
  match o.guard with
  | none => opX P C esc o Q K a s
  | some (j, want) => ∃ b, gB ((g j).map a.t) = some b ∧ (b = some want → opX P C esc o Q K a s) ∧ (b ≠ some want → K (a.put o.dst undef) s)

/-- Operations, one behind the other. -/
def opsX (P : Program) (C : FuncId → List Value → St → (Rt → St → Prop) → Prop) (esc : List Nat) (g : Nat → Option Tmp) (Q : Ex → A → St → Prop) : List Oper → (A → St → Prop) → A → St → Prop
  | [], K, a, s => K a s
  | o :: r, K, a, s => gX P C esc g Q o (opsX P C esc g Q r K) a s

/-- A load that comes to the same once more. -/
def stabX (P : Program) (ops : Array Oper) (q : Nat) (a : A) (s : St) : Prop :=
  match ops[q]? with
  | some { dst := some d, op := .load t x, guard := none, .. } => loadX P t (a.ev x) (fun v => v = a.t d) a s
  | _ => False
/-- A load that is not of this variable of the function's own. -/
def apartX (ops : Array Oper) (q : Nat) (d : Nat) (a : A) : Prop :=
  match ops[q]? with
  | some { op := .load _ x, guard := none, .. } =>
    match a.ev x with
    | .pointer (some ⟨_, _, some e⟩) => Nat.beq e d = false
    | _ => True
  | _ => False
/-- Does an operation make a variable of the function's own? Which? -/
def ownX (esc : List Nat) (o : Oper) : Option Nat :=
  match o.op, o.dst with
  | .alloc _, some d => cond (esc.contains d) none (some d)
  | .box _ _, some d => cond (esc.contains d) none (some d)
  | _, _ => none
/-- Which kind: 0 it only computes or loads, 1 it makes a variable of the function's own, 2 it does something. -/
def kindX (P : Program) (esc : List Nat) (o : Oper) : Nat :=
  match o.op with
  | .alloc _ | .box _ _ => match ownX esc o with | some _ => 1 | none => 2
  | .store _ _ _ => 2
  | .call { callee := .value (.func _), .. } => 2
  | .call { callee := .value (.tmp _), .. } => 2
  | .defer { callee := .value (.func _), .. } => 2
  | .defer { callee := .value (.tmp _), .. } => 2
  | .panic _ => 2
  | op => cond (isEffOp P op) 2 0
/-- What must hold behind an operation: of one that does something, that loads come to the same once more; of a load, that it is not of some variable of the function's own. -/
def oblX (P : Program) (esc : List Nat) (ops : Array Oper) (i : Nat) (o : Oper) (k : Nat) (a : A) (s : St) : Prop :=
  match kindX P esc o with
  | 2 => stabX P ops k a s
  | 0 => match (ops[k]?).bind (ownX esc) with
    | some d => apartX ops i d a
    | none => False
  | _ => True
def oblsX (P : Program) (esc : List Nat) (ops : Array Oper) (i : Nat) (o : Oper) : List Nat → (A → St → Prop) → A → St → Prop
  | [], K, a, s => K a s
  | q :: r, K, a, s => oblX P esc ops i o q a s ∧ oblsX P esc ops i o r K a s

/-- Where the order is open, a panic leaves nothing known of the slots. -/
def bareQ (Q : Ex → A → St → Prop) : Ex → A → St → Prop := fun e a s => match e with | .pan v => Q (.pan v) a.bare s | e => Q e a s

/-- Operations whose order is open, in one of the orders; c: behind which of them which loads must come to the same once more. -/
def drawX (P : Program) (C : FuncId → List Value → St → (Rt → St → Prop) → Prop) (esc : List Nat) (ops : Array Oper) (Q : Ex → A → St → Prop) (c : Nat → List Nat) : List Nat → (A → St → Prop) → A → St → Prop
  | [], K, a, s => K a s
  | i :: r, K, a, s => match ops[i]? with
    | some o => gX P C esc (fun j => (ops[j]?).bind (·.dst)) Q o (oblsX P esc ops i o (c i) (drawX P C esc ops Q c r K)) a s
    | none => False

/-- How a function's text is to be read: which slots hold variables that others come to know; for regions whose order is open, the orders, and what must be stable. -/
structure Cfg where
  esc : List Nat
  dr : List (Nat × List (List Nat × List (Nat × List Nat)))

def look {α : Type} (d : α) (i : Nat) : List (Nat × α) → α
  | [] => d
  | (j, x) :: r => cond (Nat.beq i j) x (look d i r)

def ordsX (P : Program) (C : FuncId → List Value → St → (Rt → St → Prop) → Prop) (esc : List Nat) (ops : Array Oper) (Q : Ex → A → St → Prop) (K : A → St → Prop) (a : A) (s : St) : List (List Nat × List (Nat × List Nat)) → Prop
  | [] => False
  | [(l, c)] => drawX P C esc ops Q (fun i => look [] i c) l K a s
  | (l, c) :: r => drawX P C esc ops Q (fun i => look [] i c) l K a s ∧ ordsX P C esc ops Q K a s r

/-- The orders of a region that has none of its own: that of the text. -/
def textX (ops : Array Oper) : List (List Nat × List (Nat × List Nat)) := [(List.range ops.size, [])]

def codeX (P : Program) (C : FuncId → List Value → St → (Rt → St → Prop) → Prop) (cfg : Cfg) : Code → (Ex → A → St → Prop) → A → St → Prop
  | .skip, Q, a, s | .label _, Q, a, s => Q .normal a s
  | .scope c, Q, a, s => codeX P C cfg c Q a s
  | .region _ ops false, Q, a, s => opsX P C cfg.esc (fun j => (ops[j]?).bind (·.dst)) Q ops.toList (Q .normal) a s
  | .region id ops true, Q, a, s => ordsX P C cfg.esc ops (bareQ Q) (Q .normal) a s (look (textX ops) id cfg.dr)
  | .seq x y, Q, a, s => codeX P C cfg x (fun e a s => match e with | .normal => codeX P C cfg y Q a s | e => Q e a s) a s
  | .cond c x y, Q, a, s => ∃ b, a.ev c = .bool b ∧ (b = true → codeX P C cfg x Q a s) ∧ (b = false → codeX P C cfg y Q a s)
  | .block id c, Q, a, s => codeX P C cfg c (fun e a s => match e with | .exit j => cond (Nat.beq j id) (Q .normal a s) (Q (.exit j) a s) | e => Q e a s) a s
  | .loop c, Q, a, s => ∃ (I : A → St → Prop) (m : A → St → Nat), I a s ∧ ∀ a s, I a s → codeX P C cfg c (fun e a' s' => match e with | .normal => I a' s' ∧ m a' s' < m a s | e => Q e a' s') a s
  | .exit id, Q, a, s => Q (.exit id) a s
  | .ret, Q, a, s => Q .ret a s
  | _, _, _, _ => False

/-- One result, or several. -/
def tupX : List Value → Value
  | [v] => v
  | vs => .tuple vs.toArray

def resX (P : Program) (K : Value → Prop) (a : A) (s : St) : List ResultVar → List Value → Prop
  | [], vs => K (tupX vs)
  | .tmp t :: r, vs => resX P K a s r (vs ++ [a.t t])
  | .cell t ty :: r, vs => loadX P ty (a.t t) (fun v => resX P K a s r (vs ++ [v])) a s

/-- How a function leaves: as told; with a panic; with one that was taken back. -/
inductive Md where
  | ret
  | pan (v : Value)
  | took

/-- Results of a function whose panic was taken back: they lie in variables that others know, too. -/
def resY (P : Program) (K : Value → Prop) (a : A) (s : St) : List ResultVar → List Value → Prop
  | [], vs => K (tupX vs)
  | .cell t ty :: r, vs =>
    match a.t t with
    | .pointer (some ⟨i, off, none⟩) => ∃ us, s.rd i off (sizeT P ty) = some us ∧ resY P K a s r (vs ++ [valT P ty us])
    | _ => False
  | .tmp _ :: _, _ => False

/-- A function leaves: its deferred calls, the last one first. -/
def leavesX (P : Program) (D : FuncId → List Value → Md → St → (Rt → Md → St → Prop) → Prop) (K : Md → St → Prop) : List Df → Md → St → Prop
  | [], u, s => K u s
  | d :: r, u, s => callB P d.f = true ∧ D d.f d.args u s fun rt u' s' =>
      match rt, u' with
      | .ret _, .took => leavesX P D K r .ret s'
      | .ret _, u' => leavesX P D K r u' s'
      | .pan v, .ret => leavesX P D K r (.pan v) s'
      | .pan _, _ => False

def bodyX (P : Program) (D : FuncId → List Value → Md → St → (Rt → Md → St → Prop) → Prop) (fn : Func) (R : Rt → St → Prop) : Ex → A → St → Prop
  | .normal, a, s | .ret, a, s => leavesX P D (fun u s => match u with | .ret => resX P (fun v => R (.ret v) s) a s fn.results.toList [] | .pan v => R (.pan v) s | .took => False) a.d .ret s
  | .pan v, a, s => leavesX P D (fun u s => match u with | .ret => resY P (fun v => R (.ret v) s) a s fn.results.toList [] | .pan v => R (.pan v) s | .took => False) a.d (.pan v) s
  | _, _, _ => False

/-! ### Functions that are put off, and may take a panic back -/
def isRec (o : Oper) : Bool :=
  match o.op with
  | .call { callee := .builtin .recover, args, argTypes := _ } => args.isEmpty && o.guard.isNone
  | _ => false

def opsR (P : Program) (C : FuncId → List Value → St → (Rt → St → Prop) → Prop) (esc : List Nat) (g : Nat → Option Tmp) (Q : Md → Ex → A → St → Prop) : List Oper → Md → A → St → Prop
  | [], u, a, s => Q u .normal a s
  | o :: r, u, a, s => cond (isRec o)
      (match u with
      | .pan v => opsR P C esc g Q r .took (a.put o.dst v) s
      | u => opsR P C esc g Q r u (a.put o.dst .nilIface) s)
      (gX P C esc g (Q u) o (fun a s => opsR P C esc g Q r u a s) a s)

def codeR (P : Program) (C : FuncId → List Value → St → (Rt → St → Prop) → Prop) (cfg : Cfg) : Code → (Md → Ex → A → St → Prop) → Md → A → St → Prop
  | .seq x y, Q, u, a, s => codeR P C cfg x (fun u e a s => match e with | .normal => codeR P C cfg y Q u a s | e => Q u e a s) u a s
  | .region _ ops false, Q, u, a, s => opsR P C cfg.esc (fun j => (ops[j]?).bind (·.dst)) Q ops.toList u a s
  | c, Q, u, a, s => codeX P C cfg c (Q u) a s

def bodyR (P : Program) (fn : Func) (R : Rt → Md → St → Prop) : Md → Ex → A → St → Prop
  | u, .normal, a, s | u, .ret, a, s => a.d = [] ∧ resX P (fun v => R (.ret v) u s) a s fn.results.toList []
  | u, .pan v, a, s => a.d = [] ∧ R (.pan v) u s
  | _, _, _, _ => False

def A.init (args : List Value) : A := { t := fun i => args.getD i undef, l := fun _ => none, d := [] }

def fnX (P : Program) (C : FuncId → List Value → St → (Rt → St → Prop) → Prop) (D : FuncId → List Value → Md → St → (Rt → Md → St → Prop) → Prop) (cfg : Cfg) (f : FuncId) (args : List Value) (s : St) (R : Rt → St → Prop) : Prop :=
  ∃ fn c, P.funcs[f]? = some fn ∧ fn.body = some c ∧ codeX P C cfg c (bodyX P D fn R) (A.init args) s
end Go.Proofs.Ytbcjgolkcfdnfaa.Sim
