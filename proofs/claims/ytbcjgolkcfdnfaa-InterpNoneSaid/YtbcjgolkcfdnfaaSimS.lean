import Derived.Test.YtbcjgolkcfdnfaaSimR
/- Sim, nineteenth text: code, run by a program. Definitions; no condition. -/
noncomputable section
namespace Go.Proofs.Ytbcjgolkcfdnfaa.Sim
open Go

def eqAd : Option Addr → Option Addr → Bool
  | none, none => true
  | some a, some b => Nat.beq a.block b.block && Nat.beq a.off b.off && (match a.spot, b.spot with | none, none => true | some s, some s' => Nat.beq s s' | _, _ => false)
  | _, _ => false
theorem eqAd_spec {a b : Option Addr} (h : eqAd a b = true) : a = b := by
  cases a with
  | none => cases b with
    | none => rfl
    | some b => cases h
  | some a => cases b with
    | none => cases h
    | some b =>
      obtain ⟨x, y, z⟩ := a
      obtain ⟨x', y', z'⟩ := b
      simp only [eqAd, Bool.and_eq_true] at h
      obtain ⟨⟨h1, h2⟩, h3⟩ := h
      rw [Nat.eq_of_beq_eq_true h1, Nat.eq_of_beq_eq_true h2]
      cases z <;> cases z' <;> first | rfl | cases h3 | rw [Nat.eq_of_beq_eq_true h3]

/-- Are two values alike, in all? (Of the plain kinds.) -/
def eqV (x y : Value) : Bool :=
  match x, y with
  | .bool a, .bool b => a == b
  | .int k a, .int k' b => decide (k = k') && decide (a = b)
  | .string a, .string b => a.data.toList == b.data.toList
  | .pointer a, .pointer b => eqAd a b
  | .slice a i j, .slice b k l => eqAd a b && Nat.beq i k && Nat.beq j l
  | .map none, .map none => true
  | .map (some a), .map (some b) => Nat.beq a b
  | .nilFunc, .nilFunc => true
  | .nilIface, .nilIface => true
  | _, _ => false
theorem bytes_ext {a b : ByteArray} (h : a.data.toList = b.data.toList) : a = b := by
  cases a; cases b; congr 1; exact Array.toList_inj.1 h
theorem eqV_spec {x y : Value} (h : eqV x y = true) : x = y := by
  unfold eqV at h
  split at h
  · rw [eq_of_beq h]
  · simp only [Bool.and_eq_true, decide_eq_true_eq] at h; rw [h.1, h.2]
  · rw [bytes_ext (eq_of_beq h)]
  · rw [eqAd_spec h]
  · simp only [Bool.and_eq_true] at h; rw [eqAd_spec h.1.1, Nat.eq_of_beq_eq_true h.1.2, Nat.eq_of_beq_eq_true h.2]
  · rfl
  · rw [Nat.eq_of_beq_eq_true h]
  · rfl
  · rfl
  · cases h
def eqL {α : Type} (f : α → α → Bool) : List α → List α → Bool
  | [], [] => true
  | x :: r, y :: r' => f x y && eqL f r r'
  | _, _ => false
theorem eqL_spec {α : Type} {f : α → α → Bool} (hf : ∀ x y, f x y = true → x = y) : ∀ {l l' : List α}, eqL f l l' = true → l = l'
  | [], [], _ => rfl
  | x :: r, y :: r', h => by
    simp only [eqL, Bool.and_eq_true] at h
    rw [hf _ _ h.1, eqL_spec hf h.2]
  | [], _ :: _, h => by cases h
  | _ :: _, [], h => by cases h
/-- The same, of structs and the like, too. -/
def eqD : Nat → Value → Value → Bool
  | 0, x, y => eqV x y
  | n + 1, x, y =>
    match x, y with
    | .agg a, .agg b => eqL (eqD n) a.toList b.toList
    | .tuple a, .tuple b => eqL (eqD n) a.toList b.toList
    | .iface t a, .iface t' b => Nat.beq t t' && eqD n a b
    | .func (.func f) a b, .func (.func g) a' b' => Nat.beq f g && eqL (eqD n) a.toList a'.toList && eqL (eqD n) b.toList b'.toList
    | x, y => eqV x y
theorem eqD_spec : ∀ (n : Nat) (x y : Value), eqD n x y = true → x = y
  | 0, _, _, h => eqV_spec h
  | n + 1, x, y, h => by
    unfold eqD at h
    split at h
    · rw [Array.toList_inj.1 (eqL_spec (eqD_spec n) h)]
    · rw [Array.toList_inj.1 (eqL_spec (eqD_spec n) h)]
    · simp only [Bool.and_eq_true] at h
      rw [Nat.eq_of_beq_eq_true h.1, eqD_spec n _ _ h.2]
    · simp only [Bool.and_eq_true] at h
      rw [Nat.eq_of_beq_eq_true h.1.1, Array.toList_inj.1 (eqL_spec (eqD_spec n) h.1.2), Array.toList_inj.1 (eqL_spec (eqD_spec n) h.2)]
    · exact eqV_spec h
def eqW (x y : Value) : Bool := eqD 3 x y
theorem eqW_spec {x y : Value} (h : eqW x y = true) : x = y := eqD_spec 3 x y h

def eqO {α : Type} (f : α → α → Bool) : Option α → Option α → Bool
  | none, none => true
  | some x, some y => f x y
  | _, _ => false
theorem eqO_spec {α : Type} {f : α → α → Bool} (hf : ∀ x y, f x y = true → x = y) : ∀ {x y : Option α}, eqO f x y = true → x = y
  | none, none, _ => rfl
  | some x, some y, h => by rw [hf x y h]
  | none, some _, h => by cases h
  | some _, none, h => by cases h
def eqT {α : Type} (f : α → α → Bool) : Tr α → Tr α → Bool
  | .nil, .nil => true
  | .node v l r, .node v' l' r' => eqO f v v' && eqT f l l' && eqT f r r'
  | _, _ => false
theorem eqT_spec {α : Type} {f : α → α → Bool} (hf : ∀ x y, f x y = true → x = y) : ∀ {x y : Tr α}, eqT f x y = true → x = y
  | .nil, .nil, _ => rfl
  | .node v l r, .node v' l' r', h => by
    simp only [eqT, Bool.and_eq_true] at h
    rw [eqO_spec hf h.1.1, eqT_spec hf h.1.2, eqT_spec hf h.2]
  | .nil, .node _ _ _, h => by cases h
  | .node _ _ _, .nil, h => by cases h
def eqOb : Ob → Ob → Bool
  | .var c, .var c' => eqL eqW c c'
  | .arr c f o k, .arr c' f' o' k' => eqL eqW c c' && Nat.beq f f' && (o == o') && (k == k')
  | .map es n, .map es' n' => eqL (fun x y => eqW x.1 y.1 && eqW x.2.1 y.2.1 && Nat.beq x.2.2 y.2.2) es es' && Nat.beq n n'
  | _, _ => false
theorem eqOb_spec (x y : Ob) (h : eqOb x y = true) : x = y := by
  unfold eqOb at h
  split at h
  · rw [eqL_spec (fun _ _ => eqW_spec) h]
  · simp only [Bool.and_eq_true] at h
    rw [eqL_spec (fun _ _ => eqW_spec) h.1.1.1, Nat.eq_of_beq_eq_true h.1.1.2, eq_of_beq h.1.2, eq_of_beq h.2]
  · simp only [Bool.and_eq_true] at h
    rw [eqL_spec (fun x y h => by
      simp only [Bool.and_eq_true] at h
      obtain ⟨x1, x2, x3⟩ := x
      obtain ⟨y1, y2, y3⟩ := y
      have e1 : x1 = y1 := eqW_spec h.1.1
      have e2 : x2 = y2 := eqW_spec h.1.2
      have e3 : x3 = y3 := Nat.eq_of_beq_eq_true h.2
      rw [e1, e2, e3]) h.1, Nat.eq_of_beq_eq_true h.2]
  · cases h
def eqDf (x y : Df) : Bool := Nat.beq x.f y.f && eqL eqW x.args y.args
theorem eqDf_spec (x y : Df) (h : eqDf x y = true) : x = y := by
  simp only [eqDf, Bool.and_eq_true] at h
  obtain ⟨x1, x2⟩ := x
  obtain ⟨y1, y2⟩ := y
  have e1 : x1 = y1 := Nat.eq_of_beq_eq_true h.1
  have e2 : x2 = y2 := eqL_spec (fun _ _ => eqW_spec) h.2
  rw [e1, e2]
def eqEA (a b : EA) : Bool := eqT eqW a.t b.t && eqT (fun x y => Nat.beq x.1 y.1 && eqL eqW x.2 y.2) a.l b.l && eqL eqDf a.d b.d
theorem eqEA_spec {a b : EA} (h : eqEA a b = true) : a = b := by
  simp only [eqEA, Bool.and_eq_true] at h
  obtain ⟨a1, a2, a3⟩ := a
  obtain ⟨b1, b2, b3⟩ := b
  have e1 : a1 = b1 := eqT_spec (fun _ _ => eqW_spec) h.1.1
  have e2 : a2 = b2 := eqT_spec (fun x y h => by
    simp only [Bool.and_eq_true] at h
    obtain ⟨x1, x2⟩ := x
    obtain ⟨y1, y2⟩ := y
    have e1 : x1 = y1 := Nat.eq_of_beq_eq_true h.1
    have e2 : x2 = y2 := eqL_spec (fun _ _ => eqW_spec) h.2
    rw [e1, e2]) h.1.2
  have e3 : a3 = b3 := eqL_spec eqDf_spec h.2
  rw [e1, e2, e3]
def eqES (a b : ES) : Bool := eqT eqOb a.heap b.heap && Nat.beq a.next b.next && eqT (fun _ _ => true) a.dead b.dead
theorem eqES_spec {a b : ES} (h : eqES a b = true) : a = b := by
  simp only [eqES, Bool.and_eq_true] at h
  obtain ⟨a1, a2, a3⟩ := a
  obtain ⟨b1, b2, b3⟩ := b
  have e1 : a1 = b1 := eqT_spec eqOb_spec h.1.1
  have e2 : a2 = b2 := Nat.eq_of_beq_eq_true h.1.2
  have e3 : a3 = b3 := eqT_spec (fun _ _ _ => rfl) h.2
  rw [e1, e2, e3]

section
variable (P : Program)

/-- Does what must hold for an operation hold? -/
def sideD (op : Op) (ev : Operand → Value) : Bool :=
  match op with
  | .indexAddr t x ix =>
    match ev x, ev ix with
    | .slice (some _) n _, .int _ i => decide (0 ≤ i) && decide (i < n)
    | .pointer (some _), .int _ i => match P.underlying t with
      | some (.array n _) => decide (0 ≤ i) && decide (i < n)
      | _ => false
    | _, _ => false
  | .index _ x ix =>
    match ev x, ev ix with
    | .string s, .int _ i => decide (0 ≤ i) && decide (i < s.size)
    | _, _ => false
  | .binOp o _ x y _ =>
    match o, ev x, ev y with
    | .quo, .int _ _, .int _ b => !decide (b = 0)
    | .rem, .int _ _, .int _ b => !decide (b = 0)
    | .shl, .int _ _, .int _ b => decide (0 ≤ b)
    | .shr, .int _ _, .int _ b => decide (0 ≤ b)
    | .add, .string a, .string b => Nat.ble (a.size + b.size) 4611686018427387904
    | _, _, _ => false
  | .slice t x lo hi none =>
    match ev x, P.underlying t with
    | .string s, some .string =>
      match boundX ev 0 lo, boundX ev s.size hi with
      | some l, some h => decide (0 ≤ l) && decide (l ≤ h) && decide (h ≤ s.size)
      | _, _ => false
    | .slice (some _) n _, some (.slice _) =>
      match boundX ev 0 lo, boundX ev n hi with
      | some l, some h => decide (0 ≤ l) && decide (l ≤ h) && decide (h ≤ n)
      | _, _ => false
    | .slice none _ _, some (.slice _) =>
      match boundX ev 0 lo, boundX ev 0 hi with
      | some l, some h => decide (l = 0) && decide (h = 0)
      | _, _ => false
    | _, _ => false
  | _ => false

abbrev CE := FuncId → List Value → ES → Option (Rt × ES)

/-- What an operation of a running function comes to. -/
inductive Ev where
  | next (a : EA) (e : ES)
  | pan (v : Value) (a : EA) (e : ES)

def evAlloc (esc : List Nat) (dst : Option Tmp) (c : List Value) (a : EA) (e : ES) : Option Ev :=
  match dst with
  | some d => cond (esc.contains d) (some (.next (a.put (some d) (.pointer (some ⟨e.next, 0, none⟩))) (e.new (.var c))))
      (some (.next ((a.loc d (a.ver d) c).put (some d) (.pointer (some ⟨a.ver d, 0, some d⟩))) e))
  | none => none

def evLoad (t : TypeId) (ad : Value) (a : EA) (e : ES) : Option Value :=
  match ad with
  | .pointer (some ⟨i, off, none⟩) => (e.toSt.rd i off (sizeT P t)).map (valT P t)
  | .pointer (some ⟨v, off, some d⟩) =>
    match a.l.get d with
    | some (v', c) => cond (Nat.beq v v') ((sub c off (sizeT P t)).map (valT P t)) none
    | none => none
  | _ => none

def evStore (t : TypeId) (ad x : Value) (dst : Option Tmp) (a : EA) (e : ES) : Option Ev :=
  cond (Nat.beq x.cells.size (sizeT P t) && noTup x)
    (match ad with
    | .pointer (some ⟨i, off, none⟩) =>
      match e.toSt.own i with
      | some c => (spl c off x.cells.toList).map fun c' => .next (a.put dst undef) (e.put i c')
      | none => none
    | .pointer (some ⟨v, off, some d⟩) =>
      match a.l.get d with
      | some (v', c) => cond (Nat.beq v v') ((spl c off x.cells.toList).map fun c' => .next ((a.loc d v' c').put dst undef) e) none
      | none => none
    | _ => none) none

def evApp (e : ES) (sz n : Nat) (news : List Value) (x : Value) : Option (Value × ES) :=
  match x with
  | .slice none a b => cond (Nat.beq n 0) (some (.slice none a b, e)) (some (.slice (some ⟨e.next, 0, none⟩) n sz, e.new (.arr news e.next true false)))
  | .slice (some ⟨i, off, none⟩) len sz' =>
    cond (Nat.beq n 0) (some (.slice (some ⟨i, off, none⟩) len sz', e))
      (cond (Nat.beq sz sz')
        (match e.heap.get i with
        | some (.arr c f true kin) =>
          cond (Nat.beq (off + len * sz) c.length)
            (some (.slice (some ⟨e.next, 0, none⟩) (len + n) sz, (e.upd i (.arr c f false kin)).new (.arr (c.drop off ++ news) f true true)))
            (cond (Nat.ble (off + len * sz) c.length)
              (some (.slice (some ⟨e.next, 0, none⟩) (len + n) sz, ((e.kill f).del i).new (.arr ((c.drop off).take (len * sz) ++ news) e.next true false))) none)
        | _ => none) none)
  | _ => none

def evPut (e : ES) (d : Value) (cs : List Value) : Option ES :=
  match cs, d with
  | [], _ => some e
  | cs, .slice (some ⟨i, off, none⟩) _ _ =>
    match e.toSt.own i with
    | some c => (spl c off cs).map fun c' => e.put i c'
    | none => none
  | _, _ => none

/-- A step of a walk through a map: the one that is left; the end. -/
def evNext (e : ES) (j : Nat) (mp : Option Nat) (since : Nat) (seen : List Nat) (last : Nat) : Option (Value × ES) :=
  match mp with
  | none => some (.tuple #[.bool false], e)
  | some i =>
    match e.heap.get i with
    | some (.map es c) =>
      cond (es.all (fun x => plainKey x.1) && (seen.isEmpty || es.isEmpty || !es.all (fun x => Nat.ble last x.2.2)))
        (match es.filter (fun x => !seen.contains x.2.2) with
        | [] => some (.tuple #[.bool false], e)
        | [x] => cond (Nat.blt x.2.2 since) (some (.tuple #[.bool true, x.1, x.2.1], e.upd j (.iter (some i) since (seen ++ [x.2.2]) c))) none
        | _ => none) none
    | _ => none

def evEff (op : Op) (ev : Operand → Value) (e : ES) : Option (Value × ES) :=
  match op with
  | .buildSlice t n parts =>
    match elemT P t with
    | some u =>
      match zeroT P u with
      | some z => (fillX (fun i => some (i * sizeT P u, sizeT P u)) (parts.toList.map fun x => (x.1, ev x.2)) ((List.replicate n z.cells.toList).flatten)).map fun c =>
        (.slice (some ⟨e.next, 0, none⟩) n (sizeT P u), e.new (.arr c e.next true false))
      | none => none
    | none => none
  | .call { callee := .builtin b, args, argTypes } =>
    match b, args.toList, argTypes.toList with
    | .append, [x, y], [t, _] =>
      match elemT P t with
      | some u =>
        match newsX e.toSt (sizeT P u) (ev y) with
        | some (news, n) => cond (Nat.ble ((lenX (ev x) + n) * bytesT P u) 70368744177664) (evApp e (sizeT P u) n news (ev x)) none
        | none => none
      | none => none
    | .copy, [x, y], [t, _] =>
      match elemT P t with
      | some u =>
        match newsX e.toSt (sizeT P u) (truncX (min (lenX (ev y)) (lenX (ev x))) (ev y)) with
        | some (news, n) => cond (isSl (ev x)) ((evPut e (ev x) news).map fun e' => (.int .i64 n, e')) none
        | none => none
      | none => none
    | .clear, [x], [t] =>
      match elemT P t with
      | some u =>
        match zeroT P u with
        | some z => cond (isSl (ev x)) ((evPut e (ev x) ((List.replicate (lenX (ev x)) z.cells.toList).flatten)).map fun e' => (.tuple #[], e')) none
        | none => none
      | none => none
    | .delete, [x, k], [t, _] =>
      match isMapT P t with
      | some (kt, _) =>
        match e.toSt.mapAt (ev x) with
        | some (i, es, c) => cond (keysB P kt (ev k) es) (some (.tuple #[], e.upd i (.map (cutX (ev k) es) c))) none
        | none => none
      | none => none
    | _, _, _ => none
  | .makeSlice t x y =>
    match elemT P t with
    | some u => match zeroT P u with
      | some z => match ev x, ev y with
        | .int _ l, .int _ c => cond (decide (0 ≤ l) && decide (l ≤ c) && decide (c * bytesT P u ≤ 70368744177664))
            (some (.slice (some ⟨e.next, 0, none⟩) l.toNat (sizeT P u), e.new (.arr ((List.replicate l.toNat z.cells.toList).flatten) e.next true false))) none
        | _, _ => none
      | none => none
    | none => none
  | .slice t x lo hi none =>
    match arrT P t with
    | some (n, u) => match ev x with
      | .pointer (some ⟨i, off, none⟩) =>
        match boundX ev 0 lo, boundX ev n hi with
        | some l, some h =>
          match e.toSt.row i with
          | some c => cond (Nat.ble (off + n * sizeT P u) c.length && decide (0 ≤ l) && decide (l ≤ h) && decide (h ≤ n)) (some (.slice (some ⟨i, off + l.toNat * sizeT P u, none⟩) (h.toNat - l.toNat) (sizeT P u), e)) none
          | none => none
        | _, _ => none
      | _ => none
    | none => none
  | .convert _ _ x =>
    match newsX e.toSt 1 (ev x) with
    | some (c, _) => cond (isSl (ev x)) ((c.mapM byteX).map fun b => (.string (ofL b), e)) none
    | none => none
  | .makeMap _ none => some (.map (some e.next), e.new (.map [] 0))
  | .lookup t x k ok =>
    match isMapT P t with
    | some (kt, et) =>
      match e.toSt.ents (ev x) with
      | some es => cond (keysB P kt (ev k) es)
        (match findX (ev k) es with
          | some y => some (cond ok (.tuple #[y.2.1, .bool true]) y.2.1, e)
          | none => (zeroT P et).map fun z => (cond ok (.tuple #[z, .bool false]) z, e)) none
      | none => none
    | none => none
  | .mapUpdate t x k v =>
    match isMapT P t with
    | some (kt, _) =>
      match e.toSt.mapAt (ev x) with
      | some (i, es, c) => cond (keysB P kt (ev k) es)
        (match findX (ev k) es with
          | some _ => some (undef, e.upd i (.map (setX (ev k) (ev v) es) c))
          | none => some (undef, e.upd i (.map (es ++ [(ev k, ev v, c)]) (c + 1)))) none
      | none => none
    | none => none
  | .range t x =>
    match isMapT P t with
    | some _ =>
      match ev x with
      | .map none => some (.pointer (some ⟨e.next, 0, none⟩), e.new (.iter none 0 [] 0))
      | .map (some i) =>
        match e.heap.get i with
        | some (.map _ c) => some (.pointer (some ⟨e.next, 0, none⟩), e.new (.iter (some i) c [] c))
        | _ => none
      | _ => none
    | none => none
  | .next x false =>
    match ev x with
    | .pointer (some ⟨j, 0, none⟩) =>
      match e.heap.get j with
      | some (.iter mp since seen last) => evNext e j mp since seen last
      | _ => none
    | _ => none
  | _ => none

def evCall (call : CE) (f : FuncId) (args : List Value) (dst : Option Tmp) (a : EA) (e : ES) : Option Ev :=
  match call f args e with
  | some (.ret v, e') => some (.next (a.put dst v) e')
  | some (.pan v, e') => some (.pan v a e')
  | none => none

def evOpG (call : CE) (esc : List Nat) (o : Oper) (a : EA) (e : ES) : Option Ev :=
  match o.op with
  | .alloc t => match zeroT P t with | some z => evAlloc esc o.dst z.cells.toList a e | none => none
  | .box _ x => cond (noTup (a.toA.ev x)) (evAlloc esc o.dst (a.toA.ev x).cells.toList a e) none
  | .load t x => (evLoad P t (a.toA.ev x) a e).map fun v => .next (a.put o.dst v) e
  | .store t x y => evStore P t (a.toA.ev x) (a.toA.ev y) o.dst a e
  | .call { callee := .value (.func f), args, argTypes := _ } => evCall call f (args.toList.map a.toA.ev) o.dst a e
  | .call { callee := .value (.tmp t), args, argTypes := _ } =>
    match a.toA.t t with
    | .func (.func f) first captured => cond (callB P f) (evCall call f (first.toList ++ args.toList.map a.toA.ev ++ captured.toList) o.dst a e) none
    | _ => none
  | .defer { callee := .value (.func f), args, argTypes := _ } => some (.next ({ a with d := ⟨f, args.toList.map a.toA.ev⟩ :: a.d }.put o.dst undef) e)
  | .defer { callee := .value (.tmp t), args, argTypes := _ } =>
    match a.toA.t t with
    | .func (.func f) first captured => cond (callB P f) (some (.next ({ a with d := ⟨f, first.toList ++ args.toList.map a.toA.ev ++ captured.toList⟩ :: a.d }.put o.dst undef) e)) none
    | _ => none
  | .panic x => match a.toA.ev x with
    | .iface t v => some (.pan (.iface t v) a e)
    | _ => none
  | op => cond (isEffOp P op) ((evEff P op a.toA.ev e).map fun x => .next (a.put o.dst x.1) x.2)
    (match pureX P op a.toA.ev with
    | some v => some (.next (a.put o.dst v) e)
    | none => match sideX P op a.toA.ev with
      | some (_, v) => cond (sideD P op a.toA.ev) (some (.next (a.put o.dst v) e)) none
      | none => none)

/-! Quick ways for what is met most often. -/
def EA.ev (a : EA) : Operand → Value
  | .tmp t => Option.rec undef (fun v => v) (a.t.get t)
  | .const v => v
  | .func f => .func (.func f) #[] #[]
  | .global _ => .chan none
def qGo (a : EA) (e : ES) (d : Option Tmp) (v : Value) : Option Ev := some (.next (a.put d v) e)
def qInt (op : BinOp) (k : IntKind) (a b : Int) : Option Value :=
  match op with
  | .add => some (.int k (k.wrap (a + b)))
  | .sub => some (.int k (k.wrap (a - b)))
  | .eql => some (.bool (a == b))
  | .neq => some (.bool (a != b))
  | .lss => some (.bool (decide (a < b)))
  | .leq => some (.bool (decide (a ≤ b)))
  | .gtr => some (.bool (decide (a > b)))
  | .geq => some (.bool (decide (a ≥ b)))
  | _ => none
def qBin (op : BinOp) (x y : Value) : Option Value :=
  match x, y with
  | .int k a, .int k' b => cond (decide (k = k')) (qInt op k a b) none
  | _, _ => none
def qNil (x : Value) : Option Value := match x with | .pointer (some ad) => some (.pointer (some ad)) | _ => none
def qFa (t : TypeId) (f : Nat) (x : Value) : Option Value :=
  match x, fieldT P t f with
  | .pointer (some ad), some fd => cond (Nat.blt 0 (sizeT P fd.type)) (some (.pointer (some ⟨ad.block, ad.off + fd.offset, ad.spot⟩))) none
  | _, _ => none
def qExt (x : Value) (i : Nat) : Option Value := match x with | .tuple vs => vs[i]? | _ => none
/-- The greater, the lesser of a number and 0: by its sign alone. -/
def qMax (x y : Value) : Option Value :=
  match x, y with
  | .int k (.ofNat n), .int _ (.ofNat 0) => some (.int k (.ofNat n))
  | .int k (.negSucc _), .int _ (.ofNat 0) => some (.int k (.ofNat 0))
  | _, _ => none
def qMin (x y : Value) : Option Value :=
  match x, y with
  | .int k (.ofNat _), .int _ (.ofNat 0) => some (.int k (.ofNat 0))
  | .int k (.negSucc n), .int _ (.ofNat 0) => some (.int k (.negSucc n))
  | _, _ => none
def qCall (c : Call) (a : EA) : Option Value :=
  match c.callee, c.args.toList with
  | .builtin .max, [x, y] => qMax (a.ev x) (a.ev y)
  | .builtin .min, [x, y] => qMin (a.ev x) (a.ev y)
  | _, _ => none
/-- What it comes to, of an operation that is met often. -/
def qVal (op : Op) (a : EA) : Option Value :=
  match op with
  | .move x => some (a.ev x)
  | .assign x => some (a.ev x)
  | .nilCheck x => qNil (a.ev x)
  | .fieldAddr t x f => qFa P t f (a.ev x)
  | .binOp o _ x y _ => qBin o (a.ev x) (a.ev y)
  | .extract x i => qExt (a.ev x) i
  | .call c => qCall c a
  | _ => none
def evOp (call : CE) (esc : List Nat) (o : Oper) (a : EA) (e : ES) : Option Ev :=
  Option.rec (evOpG P call esc o a e) (qGo a e o.dst) (qVal P o.op a)

def evG (call : CE) (esc : List Nat) (g : Nat → Option Tmp) (o : Oper) (a : EA) (e : ES) : Option Ev :=
  match o.guard with
  | none => evOp P call esc o a e
  | some (j, want) =>
    match gB ((g j).map a.toA.t) with
    | some b => cond (b == some want) (evOp P call esc o a e) (some (.next (a.put o.dst undef) e))
    | none => none

def evOps (call : CE) (esc : List Nat) (g : Nat → Option Tmp) : List Oper → EA → ES → Option Ev
  | [], a, e => some (.next a e)
  | o :: r, a, e =>
    match evG P call esc g o a e with
    | some (.next a e) => evOps call esc g r a e
    | x => x

def evStab (ops : Array Oper) (q : Nat) (a : EA) (e : ES) : Bool :=
  match ops[q]? with
  | some { dst := some d, op := .load t x, guard := none, .. } =>
    match evLoad P t (a.toA.ev x) a e with
    | some v => eqW v (a.toA.t d)
    | none => false
  | _ => false
def evApart (ops : Array Oper) (q : Nat) (d : Nat) (a : EA) : Bool :=
  match ops[q]? with
  | some { op := .load _ x, guard := none, .. } =>
    match a.toA.ev x with
    | .pointer (some ⟨_, _, some e⟩) => !Nat.beq e d
    | _ => true
  | _ => false
def evObl (esc : List Nat) (ops : Array Oper) (i : Nat) (o : Oper) (k : Nat) (a : EA) (e : ES) : Bool :=
  match kindX P esc o with
  | 2 => evStab P ops k a e
  | 0 => match (ops[k]?).bind (ownX esc) with
    | some d => evApart ops i d a
    | none => false
  | _ => true

def eqEv : Ev → Ev → Bool
  | .next a e, .next a' e' => eqEA a a' && eqES e e'
  | .pan v a e, .pan v' a' e' => eqW v v' && eqEA a a' && eqES e e'
  | _, _ => false
theorem eqEv_spec {x y : Ev} (h : eqEv x y = true) : x = y := by
  unfold eqEv at h
  split at h
  · simp only [Bool.and_eq_true] at h
    rw [eqEA_spec h.1, eqES_spec h.2]
  · simp only [Bool.and_eq_true] at h
    rw [eqW_spec h.1.1, eqEA_spec h.1.2, eqES_spec h.2]
  · cases h

def evDraw (call : CE) (esc : List Nat) (ops : Array Oper) (c : Nat → List Nat) : List Nat → EA → ES → Option Ev
  | [], a, e => some (.next a e)
  | i :: r, a, e =>
    match ops[i]? with
    | some o =>
      match evG P call esc (fun j => (ops[j]?).bind (·.dst)) o a e with
      | some (.next a e) => cond ((c i).all fun q => evObl P esc ops i o q a e) (evDraw call esc ops c r a e) none
      | some (.pan v a e) => some (.pan v a.bare e)
      | none => none
    | none => none

/-- All orders that are given: they come to the same. -/
def evOrds (call : CE) (esc : List Nat) (ops : Array Oper) (a : EA) (e : ES) : List (List Nat × List (Nat × List Nat)) → Option Ev
  | [] => none
  | [(l, c)] => evDraw P call esc ops (fun i => look [] i c) l a e
  | (l, c) :: y :: r =>
    match evDraw P call esc ops (fun i => look [] i c) l a e with
    | some x => match evOrds call esc ops a e (y :: r) with
      | some y => cond (eqEv x y) (some x) none
      | none => none
    | none => none

abbrev RE := Option (Ex × EA × ES)
def evEnd : Option Ev → RE
  | some (.next a e) => some (.normal, a, e)
  | some (.pan v a e) => some (.pan v, a, e)
  | none => none

/-- A step back to the machine's own count of steps. -/
def back {α : Type} (x : α) : α := x

def evLoop (f : EA → ES → RE) : Nat → EA → ES → RE
  | 0, _, _ => none
  | k + 1, a, e =>
    match f a e with
    | some (.normal, a, e) => back (evLoop f k a e)
    | x => x

def evCode (call : CE) (cfg : Cfg) (k : Nat) : Code → EA → ES → RE
  | .skip, a, e | .label _, a, e => some (.normal, a, e)
  | .scope c, a, e => evCode call cfg k c a e
  | .region _ ops false, a, e => evEnd (evOps P call cfg.esc (fun j => (ops[j]?).bind (·.dst)) ops.toList a e)
  | .region id ops true, a, e => evEnd (evOrds P call cfg.esc ops a e (look (textX ops) id cfg.dr))
  | .seq x y, a, e =>
    match evCode call cfg k x a e with
    | some (.normal, a, e) => back (evCode call cfg k y a e)
    | r => r
  | .cond c x y, a, e =>
    match a.toA.ev c with
    | .bool b => cond b (evCode call cfg k x a e) (evCode call cfg k y a e)
    | _ => none
  | .block id c, a, e =>
    match evCode call cfg k c a e with
    | some (.exit j, a, e) => cond (Nat.beq j id) (some (.normal, a, e)) (some (.exit j, a, e))
    | r => r
  | .loop c, a, e => evLoop (evCode call cfg k c) k a e
  | .exit id, a, e => some (.exit id, a, e)
  | .ret, a, e => some (.ret, a, e)
  | _, _, _ => none

def evRes (a : EA) (e : ES) : List ResultVar → List Value → Option Value
  | [], vs => some (tupX vs)
  | .tmp t :: r, vs => evRes a e r (vs ++ [a.toA.t t])
  | .cell t ty :: r, vs =>
    match evLoad P ty (a.toA.t t) a e with
    | some v => evRes a e r (vs ++ [v])
    | none => none

def evResY (a : EA) (e : ES) : List ResultVar → List Value → Option Value
  | [], vs => some (tupX vs)
  | .cell t ty :: r, vs =>
    match a.toA.t t with
    | .pointer (some ⟨i, off, none⟩) =>
      match e.toSt.rd i off (sizeT P ty) with
      | some us => evResY a e r (vs ++ [valT P ty us])
      | none => none
    | _ => none
  | .tmp _ :: _, _ => none

def evOpsR (call : CE) (esc : List Nat) (g : Nat → Option Tmp) : List Oper → Md → EA → ES → Option (Md × Ex × EA × ES)
  | [], u, a, e => some (u, .normal, a, e)
  | o :: r, u, a, e => cond (isRec o)
      (match u with
      | .pan v => evOpsR call esc g r .took (a.put o.dst v) e
      | u => evOpsR call esc g r u (a.put o.dst .nilIface) e)
      (match evG P call esc g o a e with
      | some (.next a e) => evOpsR call esc g r u a e
      | some (.pan v a e) => some (u, .pan v, a, e)
      | none => none)

def evCodeR (call : CE) (cfg : Cfg) (k : Nat) : Code → Md → EA → ES → Option (Md × Ex × EA × ES)
  | .seq x y, u, a, e =>
    match evCodeR call cfg k x u a e with
    | some (u, .normal, a, e) => back (evCodeR call cfg k y u a e)
    | r => r
  | .region _ ops false, u, a, e => evOpsR P call cfg.esc (fun j => (ops[j]?).bind (·.dst)) ops.toList u a e
  | c, u, a, e => (evCode P call cfg k c a e).map fun x => (u, x)

end
end Go.Proofs.Ytbcjgolkcfdnfaa.Sim
