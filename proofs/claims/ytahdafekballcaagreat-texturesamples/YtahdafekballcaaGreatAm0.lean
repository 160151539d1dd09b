/-
  AM, part 0: an abstract machine for the Go model: its values, its heap, its operations. Own work; generic over the program.
-/
import Derived.Calls
import Derived.Orders
set_option linter.unusedVariables false
namespace Go.Proofs.YtahdafekballcaaGreat.AM
open Go

/-! ### A table keyed by numbers -/
inductive Tr (α : Type) where
  | nil
  | node (v : Option α) (c0 c1 c2 c3 : Tr α)

def sel4 {β : Type} (d : Nat) (a b c e : β) : β :=
  Nat.casesOn (motive := fun _ => β) d a fun d => Nat.casesOn (motive := fun _ => β) d b fun d => Nat.casesOn (motive := fun _ => β) d c fun _ => e

theorem sel4_eq {β : Type} (d : Nat) (a b c e : β) : sel4 d a b c e = if d = 0 then a else if d = 1 then b else if d = 2 then c else e := by
  match d with
  | 0 => rfl
  | 1 => rfl
  | 2 => rfl
  | d + 3 => rw [if_neg (by omega), if_neg (by omega), if_neg (by omega)]; rfl

def Tr.get {α : Type} : Tr α → Nat → Option α
  | .nil, _ => none
  | .node v c0 c1 c2 c3, n => Nat.casesOn (motive := fun _ => Option α) n v fun m => sel4 (Nat.land m 3) (c0.get (Nat.shiftRight m 2)) (c1.get (Nat.shiftRight m 2)) (c2.get (Nat.shiftRight m 2)) (c3.get (Nat.shiftRight m 2))

def Tr.one {α : Type} : Nat → Nat → Option α → Tr α
  | 0, _, _ => .nil
  | f + 1, n, x => Nat.casesOn (motive := fun _ => Tr α) n (.node x .nil .nil .nil .nil) fun m => sel4 (Nat.land m 3) (.node none (Tr.one f (Nat.shiftRight m 2) x) .nil .nil .nil) (.node none .nil (Tr.one f (Nat.shiftRight m 2) x) .nil .nil) (.node none .nil .nil (Tr.one f (Nat.shiftRight m 2) x) .nil) (.node none .nil .nil .nil (Tr.one f (Nat.shiftRight m 2) x))

def Tr.set {α : Type} : Tr α → Nat → Option α → Tr α
  | .nil, n, x => Tr.one (n + 1) n x
  | .node v c0 c1 c2 c3, n, x => Nat.casesOn (motive := fun _ => Tr α) n (.node x c0 c1 c2 c3) fun m => sel4 (Nat.land m 3) (.node v (c0.set (Nat.shiftRight m 2) x) c1 c2 c3) (.node v c0 (c1.set (Nat.shiftRight m 2) x) c2 c3) (.node v c0 c1 (c2.set (Nat.shiftRight m 2) x) c3) (.node v c0 c1 c2 (c3.set (Nat.shiftRight m 2) x))

theorem land3 (m : Nat) : Nat.land m 3 = m % 4 := Nat.and_two_pow_sub_one_eq_mod m 2
theorem shr2 (m : Nat) : Nat.shiftRight m 2 = m / 4 := Nat.shiftRight_eq_div_pow m 2

theorem Tr.get_succ {α : Type} (v : Option α) (c0 c1 c2 c3 : Tr α) (m : Nat) : (Tr.node v c0 c1 c2 c3).get (m + 1) = if m % 4 = 0 then c0.get (m / 4) else if m % 4 = 1 then c1.get (m / 4) else if m % 4 = 2 then c2.get (m / 4) else c3.get (m / 4) := by
  show sel4 (Nat.land m 3) (c0.get (Nat.shiftRight m 2)) (c1.get (Nat.shiftRight m 2)) (c2.get (Nat.shiftRight m 2)) (c3.get (Nat.shiftRight m 2)) = _
  rw [sel4_eq, land3, shr2]

theorem Tr.get_zero {α : Type} (v : Option α) (c0 c1 c2 c3 : Tr α) : (Tr.node v c0 c1 c2 c3).get 0 = v := rfl

/-- One child laid anew. -/
theorem Tr.get_laid {α : Type} {v : Option α} {c0 c1 c2 c3 : Tr α} {m : Nat} {x : Option α} (u : Tr α → Tr α) (h : ∀ c, c = c0 ∨ c = c1 ∨ c = c2 ∨ c = c3 → ∀ k, (u c).get k = if m / 4 = k then x else c.get k) (k : Nat) :
    (if m % 4 = 0 then Tr.node v (u c0) c1 c2 c3 else if m % 4 = 1 then Tr.node v c0 (u c1) c2 c3 else if m % 4 = 2 then Tr.node v c0 c1 (u c2) c3 else Tr.node v c0 c1 c2 (u c3)).get k = if m + 1 = k then x else (Tr.node v c0 c1 c2 c3).get k := by
  have hm : m % 4 = 0 ∨ m % 4 = 1 ∨ m % 4 = 2 ∨ m % 4 = 3 := by omega
  cases k with
  | zero =>
    rw [if_neg (show ¬ m + 1 = 0 by omega)]
    split
    · rfl
    · split
      · rfl
      · split <;> rfl
  | succ k =>
    rw [Tr.get_succ]
    have hk : k % 4 = 0 ∨ k % 4 = 1 ∨ k % 4 = 2 ∨ k % 4 = 3 := by omega
    rcases hm with q | q | q | q
    · rw [if_pos q, Tr.get_succ, h c0 (.inl rfl)]
      rcases hk with r | r | r | r
      · simp only [r, if_true]
        by_cases e : m / 4 = k / 4
        · rw [if_pos e, if_pos (by omega)]
        · rw [if_neg e, if_neg (by omega)]
      · simp only [r]; rw [if_neg (show ¬ m + 1 = k + 1 by omega)]; rfl
      · simp only [r]; rw [if_neg (show ¬ m + 1 = k + 1 by omega)]; rfl
      · simp only [r]; rw [if_neg (show ¬ m + 1 = k + 1 by omega)]; rfl
    · rw [if_neg (by omega), if_pos q, Tr.get_succ, h c1 (.inr (.inl rfl))]
      rcases hk with r | r | r | r
      · simp only [r]; rw [if_neg (show ¬ m + 1 = k + 1 by omega)]; rfl
      · simp only [r]
        by_cases e : m / 4 = k / 4
        · rw [if_pos e, if_pos (show m + 1 = k + 1 by omega)]; rfl
        · rw [if_neg e, if_neg (show ¬ m + 1 = k + 1 by omega)]
      · simp only [r]; rw [if_neg (show ¬ m + 1 = k + 1 by omega)]; rfl
      · simp only [r]; rw [if_neg (show ¬ m + 1 = k + 1 by omega)]; rfl
    · rw [if_neg (by omega), if_neg (by omega), if_pos q, Tr.get_succ, h c2 (.inr (.inr (.inl rfl)))]
      rcases hk with r | r | r | r
      · simp only [r]; rw [if_neg (show ¬ m + 1 = k + 1 by omega)]; rfl
      · simp only [r]; rw [if_neg (show ¬ m + 1 = k + 1 by omega)]; rfl
      · simp only [r]
        by_cases e : m / 4 = k / 4
        · rw [if_pos e, if_pos (show m + 1 = k + 1 by omega)]; rfl
        · rw [if_neg e, if_neg (show ¬ m + 1 = k + 1 by omega)]
      · simp only [r]; rw [if_neg (show ¬ m + 1 = k + 1 by omega)]; rfl
    · rw [if_neg (by omega), if_neg (by omega), if_neg (by omega), Tr.get_succ, h c3 (.inr (.inr (.inr rfl)))]
      rcases hk with r | r | r | r
      · simp only [r]; rw [if_neg (show ¬ m + 1 = k + 1 by omega)]; rfl
      · simp only [r]; rw [if_neg (show ¬ m + 1 = k + 1 by omega)]; rfl
      · simp only [r]; rw [if_neg (show ¬ m + 1 = k + 1 by omega)]; rfl
      · simp only [r]
        by_cases e : m / 4 = k / 4
        · rw [if_pos e, if_pos (show m + 1 = k + 1 by omega)]; rfl
        · rw [if_neg e, if_neg (show ¬ m + 1 = k + 1 by omega)]

theorem Tr.get_nils {α : Type} (k : Nat) : (Tr.node (none : Option α) .nil .nil .nil .nil).get k = none := by
  cases k with
  | zero => rfl
  | succ k =>
    rw [Tr.get_succ]
    split
    · rfl
    · split
      · rfl
      · split <;> rfl

theorem Tr.get_one {α : Type} : ∀ (f n : Nat) (x : Option α) (k : Nat), n < f → (Tr.one f n x).get k = if n = k then x else none
  | 0, n, x, k, h => by omega
  | f + 1, 0, x, k, h => by
    show (Tr.node x .nil .nil .nil .nil).get k = _
    cases k with
    | zero => rfl
    | succ k =>
      rw [Tr.get_succ, if_neg (show ¬ 0 = k + 1 by omega)]
      split
      · rfl
      · split
        · rfl
        · split <;> rfl
  | f + 1, m + 1, x, k, h => by
    show (sel4 (Nat.land m 3) (Tr.node none (Tr.one f (Nat.shiftRight m 2) x) .nil .nil .nil) (.node none .nil (Tr.one f (Nat.shiftRight m 2) x) .nil .nil) (.node none .nil .nil (Tr.one f (Nat.shiftRight m 2) x) .nil) (.node none .nil .nil .nil (Tr.one f (Nat.shiftRight m 2) x))).get k = _
    rw [sel4_eq, land3, shr2]
    have := Tr.get_laid (v := none) (c0 := .nil) (c1 := .nil) (c2 := .nil) (c3 := .nil) (m := m) (x := x) (fun _ => Tr.one f (m / 4) x) (fun c hc k => by
      rw [Tr.get_one f (m / 4) x k (by omega)]
      rcases hc with rfl | rfl | rfl | rfl <;> rfl) k
    rw [this, Tr.get_nils]

theorem Tr.get_set {α : Type} : ∀ (t : Tr α) (n : Nat) (x : Option α) (k : Nat), (t.set n x).get k = if n = k then x else t.get k
  | .nil, n, x, k => Tr.get_one (n + 1) n x k (Nat.lt_succ_self n)
  | .node v c0 c1 c2 c3, 0, x, k => by
    show (Tr.node x c0 c1 c2 c3).get k = _
    cases k with
    | zero => rfl
    | succ k => rw [if_neg (by omega), Tr.get_succ, Tr.get_succ]
  | .node v c0 c1 c2 c3, m + 1, x, k => by
    show (sel4 (Nat.land m 3) (Tr.node v (c0.set (Nat.shiftRight m 2) x) c1 c2 c3) (.node v c0 (c1.set (Nat.shiftRight m 2) x) c2 c3) (.node v c0 c1 (c2.set (Nat.shiftRight m 2) x) c3) (.node v c0 c1 c2 (c3.set (Nat.shiftRight m 2) x))).get k = _
    rw [sel4_eq, land3, shr2]
    exact Tr.get_laid (fun c => c.set (m / 4) x) (fun c hc k => by
      rcases hc with rfl | rfl | rfl | rfl
      · exact Tr.get_set _ _ _ _
      · exact Tr.get_set _ _ _ _
      · exact Tr.get_set _ _ _ _
      · exact Tr.get_set _ _ _ _) k

/-! ### Values -/
inductive AV where
  | junk
  | bool (b : Bool)
  | int (k : IntKind) (n : Int)
  | str (s : List UInt8)
  | nilp
  | ptr (b o : Nat)
  | nils
  | slice (b o len cap : Nat) (ex : Bool) (sz : Nat)
  | nilm
  | map (r : Nat)
  | fn (f : FuncId) (first captured : List AV)
  | nilf
  | iface (t : TypeId) (v : AV)
  | nili
  | agg (cs : List AV)
  | tup (vs : List AV)
  deriving Inhabited

/-- The cells of a value that is stored. -/
def AV.cells : AV → Option (List AV)
  | .junk => none
  | .tup _ => none
  | .agg cs => some cs
  | v => some [v]

def AV.isCell : AV → Bool
  | .junk => false
  | .tup _ => false
  | .agg _ => false
  | _ => true

def undefA : AV := .tup []

/-! ### The heap -/
/-- How a block may be used: read alone; written (the Bool: it is no string's bytes); read alone, for another one goes on where it ends. -/
inductive Md where
  | ro | rw (p : Bool) | st

inductive AObj where
  | cells (cs : List AV) (md : Md) (anc : List Nat)
  | map (es : List (AV × AV × Nat)) (clock : Nat)

structure Heap where
  next : Nat
  tbl : Tr AObj

def Heap.get (h : Heap) (b : Nat) : Option AObj := h.tbl.get b
def Heap.put (h : Heap) (b : Nat) (o : Option AObj) : Heap := { h with tbl := h.tbl.set b o }
def Heap.bump (h : Heap) (n : Nat) : Heap := { h with next := h.next + n }
def Heap.drop (h : Heap) : List Nat → Heap
  | [] => h
  | b :: bs => (h.put b none).drop bs

theorem Heap.get_put (h : Heap) (b : Nat) (o : Option AObj) (c : Nat) : (h.put b o).get c = if b = c then o else h.get c := Tr.get_set _ _ _ _
theorem Heap.next_put (h : Heap) (b : Nat) (o : Option AObj) : (h.put b o).next = h.next := rfl
theorem Heap.get_bump (h : Heap) (n b : Nat) : (h.bump n).get b = h.get b := rfl
theorem Heap.next_bump (h : Heap) (n : Nat) : (h.bump n).next = h.next + n := rfl
theorem Heap.next_drop : ∀ (bs : List Nat) (h : Heap), (h.drop bs).next = h.next
  | [], _ => rfl
  | b :: bs, h => by simp only [Heap.drop]; rw [Heap.next_drop bs]; rfl
theorem Heap.get_drop : ∀ (bs : List Nat) (h : Heap) (c : Nat), (h.drop bs).get c = if c ∈ bs then none else h.get c
  | [], h, c => by simp [Heap.drop]
  | b :: bs, h, c => by
    simp only [Heap.drop]
    rw [Heap.get_drop bs, Heap.get_put]
    by_cases h1 : c ∈ bs
    · simp [h1]
    · by_cases h2 : b = c
      · subst h2; simp [h1]
      · have : ¬ c = b := fun e => h2 e.symm
        simp [h1, h2, this]

/-! ### Lists of cells -/
/-- The n cells from o on, if they are all there. -/
def cut (cs : List AV) (o n : Nat) : Option (List AV) := bif Nat.ble (o + n) cs.length then some ((cs.drop o).take n) else none

/-- cs with vs laid over it from o on. -/
def lay : List AV → Nat → List AV → List AV
  | cs, _, [] => cs
  | cs, o, v :: vs => lay (cs.set o v) (o + 1) vs

/-! ### Types -/
section
variable (P : Program)

def sizeA (t : TypeId) : Option Nat := (P.info? t).map (·.size)

def aggA (t : TypeId) : Option Bool :=
  match P.underlying t with
  | some (.struct _) => some true
  | some (.array _ _) => some true
  | some _ => some false
  | none => none

/-- A constant of one cell. -/
def ofScalar : Value → Option AV
  | .bool b => some (.bool b)
  | .int k n => some (.int k n)
  | .string s => some (.str s.data.toList)
  | .pointer none => some .nilp
  | .slice none 0 0 => some .nils
  | .map none => some .nilm
  | .nilFunc => some .nilf
  | .nilIface => some .nili
  | _ => none

def ofScalars : List Value → Option (List AV)
  | [] => some []
  | v :: vs => match ofScalar v with
    | none => none
    | some a => match ofScalars vs with
      | none => none
      | some as => some (a :: as)

def ofConst : Value → Option AV
  | .agg cs => (ofScalars cs.toList).map .agg
  | .iface t v => (ofScalar v).map (.iface t)
  | .tuple vs => if vs.size = 0 then some (.tup []) else none
  | v => ofScalar v

/-- The cells of a type's zero. -/
def zeroA (t : TypeId) : Option AV :=
  match P.info? t with
  | some i => match i.zero with
    | some z => ofConst z
    | none => none
  | none => none

def zeroCellsA (t : TypeId) : Option (List AV) :=
  match zeroA P t, sizeA P t with
  | some z, some n => match z.cells with
    | some l => bif Nat.beq l.length n then some l else none
    | none => none
  | _, _ => none

/-! ### Arithmetic -/
def arith (op : BinOp) (k : IntKind) (x y : Int) : Option AV :=
  match op with
  | .add => some (.int k (k.wrap (x + y)))
  | .sub => some (.int k (k.wrap (x - y)))
  | .mul => some (.int k (k.wrap (x * y)))
  | .quo => if y = 0 then none else some (.int k (k.wrap (x.tdiv y)))
  | .rem => if y = 0 then none else some (.int k (x.tmod y))
  | .and => some (.int k (k.wrap (BitVec.ofInt k.bits x &&& BitVec.ofInt k.bits y).toNat))
  | .or => some (.int k (k.wrap (BitVec.ofInt k.bits x ||| BitVec.ofInt k.bits y).toNat))
  | .xor => some (.int k (k.wrap (BitVec.ofInt k.bits x ^^^ BitVec.ofInt k.bits y).toNat))
  | .andNot => some (.int k (k.wrap (BitVec.ofInt k.bits x &&& ~~~ BitVec.ofInt k.bits y).toNat))
  | .eql => some (.bool (x == y))
  | .neq => some (.bool (x != y))
  | .lss => some (.bool (decide (x < y)))
  | .leq => some (.bool (decide (x ≤ y)))
  | .gtr => some (.bool (decide (x > y)))
  | .geq => some (.bool (decide (x ≥ y)))
  | _ => none

def shiftA (op : BinOp) (k : IntKind) (x y : Int) : Option AV :=
  if y < 0 then none else
  match op with
  | .shl => some (.int k (k.wrap (x * 2 ^ (min y.toNat k.bits))))
  | .shr => some (.int k (x.fdiv (2 ^ (min y.toNat k.bits))))
  | _ => none

def strop (op : BinOp) (x y : List UInt8) : Option AV :=
  match op with
  | .add => bif Nat.ble (x.length + y.length) 9223372036854775807 then some (.str (x ++ y)) else none
  | .eql => some (.bool (x == y))
  | .neq => some (.bool (!(x == y)))
  | .lss => some (.bool (Op.bytesLess x y))
  | .leq => some (.bool (Op.bytesLess x y || x == y))
  | .gtr => some (.bool (!(Op.bytesLess x y || x == y)))
  | .geq => some (.bool (!Op.bytesLess x y))
  | _ => none

/-- Is it one of the reference kinds, and nil or not? -/
def nilness : AV → Option Bool
  | .nilp | .nils | .nilm | .nilf => some true
  | .ptr _ _ | .slice .. | .map _ | .fn .. => some false
  | _ => none

def liveRw (h : Heap) (b : Nat) : Bool :=
  match h.get b with
  | some (.cells _ (.rw true) _) => true
  | _ => false

/-- Do all cells hold whole numbers (the same kinds), and the same ones? -/
def sameInts : List AV → List AV → Option Bool
  | [], [] => some true
  | .int j a :: xs, .int k b :: ys => if j = k then (if a = b then sameInts xs ys else match sameInts xs ys with | some _ => some false | none => none) else none
  | _, _ => none

def partA (t : TypeId) (cs : List AV) (off : Nat) : Option AV :=
  match aggA P t with
  | some true => match sizeA P t with
    | some n => (cut cs off n).map .agg
    | none => none
  | some false => cs[off]?
  | none => none

/-- 'x == y'. The Bool: is one operand a constant? -/
def eqA (h : Heap) (t : TypeId) (con : Bool) : AV → AV → Option Bool
  | .bool a, .bool b => match P.underlying t with
    | some .bool => some (a == b)
    | _ => none
  | .nilp, .nilp => match P.underlying t with
    | some (.pointer _) => some true
    | _ => none
  | .nilp, .ptr _ _ | .ptr _ _, .nilp => match P.underlying t with
    | some (.pointer _) => some false
    | _ => none
  | .ptr b o, .ptr b' o' => match P.underlying t with
    | some (.pointer e) => match sizeA P e with
      | some (_ + 1) => if b = b' then some (o == o') else if liveRw h b && liveRw h b' then some false else none
      | _ => none
    | _ => none
  | .nils, .nils => match P.underlying t with
    | some (.slice _) => some true
    | _ => none
  | .nils, .slice .. | .slice .., .nils => match P.underlying t with
    | some (.slice _) => some false
    | _ => none
  | .nilm, .nilm => match P.underlying t with
    | some (.map _ _) => some true
    | _ => none
  | .nilm, .map _ | .map _, .nilm => match P.underlying t with
    | some (.map _ _) => some false
    | _ => none
  | .nilf, .nilf => match P.underlying t with
    | some (.func _ _ _) => some true
    | _ => none
  | .nilf, .fn .. | .fn .., .nilf => match P.underlying t with
    | some (.func _ _ _) => some false
    | _ => none
  | .nili, .nili => match P.underlying t with
    | some (.interface _) => if con then some true else none
    | _ => none
  | .nili, .iface .. | .iface .., .nili => match P.underlying t with
    | some (.interface _) => some false
    | _ => none
  | _, _ => none

/-- 'x == y' of parts: what is known without the heap. -/
def eqLeaf (t : TypeId) : AV → AV → Option Bool
  | .int k a, .int k' b => match P.underlying t with
    | some (.int _) => if k = k' then some (a == b) else none
    | _ => none
  | .str a, .str b => match P.underlying t with
    | some .string => some (a == b)
    | _ => none
  | .bool a, .bool b => match P.underlying t with
    | some .bool => some (a == b)
    | _ => none
  | .nilp, .nilp => match P.underlying t with
    | some (.pointer _) => some true
    | _ => none
  | .nilp, .ptr _ _ | .ptr _ _, .nilp => match P.underlying t with
    | some (.pointer _) => some false
    | _ => none
  | _, _ => none

def eqFs (f : TypeId → AV → AV → Option Bool) : List Field → List AV → List AV → Option Bool
  | [], _, _ => some true
  | fd :: fs, xs, ys => if fd.name = "_" then eqFs f fs xs ys else
    match partA P fd.type xs fd.offset, partA P fd.type ys fd.offset with
    | some a, some b => match f fd.type a b with
      | some true => eqFs f fs xs ys
      | r => r
    | _, _ => none

def eqEs (f : AV → AV → Option Bool) (e : TypeId) (sz : Nat) (xs ys : List AV) : List Nat → Option Bool
  | [] => some true
  | i :: is => match partA P e xs (i * sz), partA P e ys (i * sz) with
    | some a, some b => match f a b with
      | some true => eqEs f e sz xs ys is
      | r => r
    | _, _ => none

/-- 'x == y' of structs and arrays. -/
def eqD : Nat → TypeId → AV → AV → Option Bool
  | 0, _, _, _ => none
  | d + 1, t, x, y => match x, y with
    | .agg xs, .agg ys => match P.underlying t with
      | some (.struct fs) => if P.stoodInHeld t = true then none else eqFs P (eqD d) fs.toList xs ys
      | some (.array n e) => match sizeA P e with
        | some sz => eqEs P (eqD d e) e sz xs ys (List.range n)
        | none => none
      | _ => none
    | x, y => eqLeaf P t x y

def binA (h : Heap) (op : BinOp) (t : TypeId) (con : Bool) : AV → AV → Option AV
  | .int k a, .int k' b =>
    match op with
    | .shl | .shr => shiftA op k a b
    | _ => if k = k' then arith op k a b else none
  | .str a, .str b => strop op a b
  | .agg a, .agg b => if P.eqGuardType P.depth t = true then none else
    match op with
    | .eql => (eqD P 6 t (.agg a) (.agg b)).map .bool
    | .neq => (eqD P 6 t (.agg a) (.agg b)).map fun b => .bool (!b)
    | _ => none
  | x, y =>
    match op with
    | .eql => (eqA P h t con x y).map .bool
    | .neq => (eqA P h t con x y).map fun b => .bool (!b)
    | _ => none

def unA (op : UnOp) : AV → Option AV
  | .int k n => match op with
    | .neg => arith .sub k 0 n
    | .xor => arith .xor k (if k.signed then -1 else k.max) n
    | _ => none
  | .bool b => match op with
    | .not => some (.bool !b)
    | _ => none
  | _ => none

/-! ### Memory -/
/-- What a block holds; nothing, where there is none. -/
def rdA (h : Heap) (b : Nat) : List AV :=
  match h.get b with
  | some (.cells cs _ _) => cs
  | _ => []

def loadA (h : Heap) (t : TypeId) : AV → Option AV
  | .ptr b o => match aggA P t with
      | some true => match sizeA P t with
        | some n => (cut (rdA h b) o n).map .agg
        | none => none
      | some false => (rdA h b)[o]?
      | none => none
  | _ => none

/-- Cells laid over a block's own from o on. -/
def pokeA (h : Heap) (b o : Nat) (vs : List AV) : Option Heap :=
  match h.get b with
  | some (.cells cs (.rw p) anc) =>
    bif Nat.ble (o + vs.length) cs.length && vs.all AV.isCell then some ((h.drop anc).put b (some (.cells (lay cs o vs) (.rw p) []))) else none
  | _ => none

def storeA (h : Heap) (t : TypeId) (a v : AV) : Option Heap :=
  match a with
  | .ptr b o => match v.cells, sizeA P t with
    | some vs, some n => bif Nat.beq vs.length n then pokeA h b o vs else none
    | _, _ => none
  | _ => none

def newA (h : Heap) (fresh : Nat) (cs : List AV) (p : Bool := true) : Heap := h.put fresh (some (.cells cs (.rw p) []))

def allocA (h : Heap) (fresh : Nat) (t : TypeId) : Option (AV × Heap) :=
  match zeroA P t with
  | some z => match z.cells with
    | some cs => some (.ptr fresh 0, newA h fresh cs)
    | none => none
  | none => none

def boxA (h : Heap) (fresh : Nat) (v : AV) : Option (AV × Heap) :=
  match v.cells with
  | some cs => some (.ptr fresh 0, newA h fresh cs)
  | none => none

/-- Parts laid into cells: place and size of each by 'place'. -/
def fillA (place : Nat → Option (Nat × Nat)) : List AV → List (Nat × AV) → Option (List AV)
  | cells, [] => some cells
  | cells, (i, v) :: rest =>
    match place i with
    | none => none
    | some (off, size) => match v.cells with
      | none => none
      | some vs => bif Nat.beq vs.length size && Nat.ble (off + size) cells.length then fillA place (lay cells off vs) rest else none

def fieldAt? (fs : Array Field) (i : Nat) : Option (Nat × Nat) :=
  match fs[i]? with
  | some f => match sizeA P f.type with
    | some n => some (f.offset, n)
    | none => none
  | none => none

def sizesOk (fs : Array Field) : Bool := fs.all fun f => (sizeA P f.type).isSome

def buildA (t : TypeId) (parts : List (Nat × AV)) : Option AV :=
  match zeroA P t with
  | some z => match z.cells with
    | none => none
    | some zero => match P.underlying t with
      | some (.struct fs) => bif sizesOk P fs then (fillA (fieldAt? P fs) zero parts).map .agg else none
      | some (.array _ e) => match sizeA P e with
        | some n => (fillA (fun i => some (i * n, n)) zero parts).map .agg
        | none => none
      | _ => none
  | none => none

/-- n times the same cells. -/
def times : Nat → List AV → List AV
  | 0, _ => []
  | n + 1, l => l ++ times n l

def buildSliceA (h : Heap) (fresh : Nat) (t : TypeId) (len : Nat) (parts : List (Nat × AV)) : Option (AV × Heap) :=
  match P.underlying t with
  | some (.slice e) => match zeroCellsA P e with
    | some z => bif Nat.ble (len * z.length) 16777216 && Nat.blt 0 z.length then
        match fillA (fun i => some (i * z.length, z.length)) (times len z) parts with
        | some cs => some (.slice fresh 0 len len true z.length, newA h fresh cs)
        | none => none
      else none
    | none => none
  | _ => none

def makeSliceA (h : Heap) (fresh : Nat) (t : TypeId) (len cap : AV) : Option (AV × Heap) :=
  match P.underlying t, len, cap with
  | some (.slice e), .int _ l, .int _ c => match zeroCellsA P e, P.info? e with
    | some z, some i =>
      if 0 ≤ l ∧ l ≤ c ∧ c * i.bytes ≤ 140737488355328 ∧ c ≤ 140737488355328 then
        bif Nat.blt 0 z.length then some (.slice fresh 0 l.toNat c.toNat true z.length, newA h fresh (times c.toNat z)) else none
      else none
    | _, _ => none
  | _, _, _ => none

/-- A slice's or string's bounds: low, high, max (cap where none). -/
def boundA (len : Nat) (dflt : Nat) (most : Nat) : Option AV → Option Nat
  | none => some dflt
  | some (.int _ i) => if 0 ≤ i ∧ i ≤ most then some i.toNat else none
  | _ => none

def sliceOfA (h : Heap) (t : TypeId) (x : AV) (lo hi mx : Option AV) : Option AV :=
  match x with
  | .str s => match P.underlying t, mx with
    | some .string, none => match boundA s.length s.length s.length hi with
      | some h => match boundA s.length 0 h lo with
        | some l => some (.str ((s.drop l).take (h - l)))
        | none => none
      | none => none
    | _, _ => none
  | .nils => match P.underlying t with
    | some (.slice e) => match sizeA P e with
      | some _ => bif mx.isSome && hi.isNone then none else
        match boundA 0 0 0 mx with
        | some m => match boundA 0 0 m hi with
          | some h => match boundA 0 0 h lo with
            | some _ => some .nils
            | none => none
          | none => none
        | none => none
      | none => none
    | _ => none
  | .slice b o len cap ex sz => match P.underlying t with
    | some (.slice e) => match sizeA P e with
      | some n => bif !Nat.beq n sz || (mx.isSome && hi.isNone) then none else
          match boundA len cap cap mx with
          | some m => match boundA len len m hi with
            | some h => match boundA len 0 h lo with
              | some l => some (.slice b (o + l * sz) (h - l) (m - l) (ex || mx.isSome) sz)
              | none => none
            | none => none
          | none => none
      | none => none
    | _ => none
  | .ptr b o => match P.underlying t, mx with
    | some (.array n e), none => match sizeA P e, h.get b with
      | some sz, some (.cells cs _ _) =>
        bif Nat.ble (o + n * sz) cs.length then
          match boundA n n n hi with
          | some h => match boundA n 0 h lo with
            | some l => some (.slice b (o + l * sz) (h - l) (n - l) true sz)
            | none => none
          | none => none
        else none
      | _, _ => none
    | _, _ => none
  | _ => none

def fieldAddrA (t : TypeId) (x : AV) (f : Nat) : Option AV :=
  match x, P.underlying t with
  | .ptr b o, some (.struct fs) => match fs[f]? with
    | some fd => match sizeA P fd.type with
      | some (_ + 1) => some (.ptr b (o + fd.offset))
      | _ => none
    | none => none
  | _, _ => none

def fieldA (t : TypeId) (x : AV) (f : Nat) : Option AV :=
  match x, P.underlying t with
  | .agg cs, some (.struct fs) => match fs[f]? with
    | some fd => partA P fd.type cs fd.offset
    | none => none
  | _, _ => none

def indexAddrA (t : TypeId) (x i : AV) : Option AV :=
  match i with
  | .int _ i => match x, P.underlying t with
    | .ptr b o, some (.array n e) => match sizeA P e with
      | some sz => if 0 ≤ i ∧ i < n then some (.ptr b (o + i.toNat * sz)) else none
      | none => none
    | .slice b o len _ _ sz, some (.slice e) => match sizeA P e with
      | some n => bif Nat.beq n sz then (if 0 ≤ i ∧ i < len then some (.ptr b (o + i.toNat * sz)) else none) else none
      | none => none
    | _, _ => none
  | _ => none

def indexA (t : TypeId) (x i : AV) : Option AV :=
  match i with
  | .int _ i => match x, P.underlying t with
    | .agg cs, some (.array n e) => match sizeA P e with
      | some sz => if 0 ≤ i ∧ i < n then partA P e cs (i.toNat * sz) else none
      | none => none
    | .str s, some .string => if 0 ≤ i then (s[i.toNat]?).map (fun b => .int .u8 b.toNat) else none
    | _, _ => none
  | _ => none

/-- What is appended or copied: how many, and the cells. -/
def cellsOfA (h : Heap) (sz : Nat) : AV → Option (Nat × List AV)
  | .nils => some (0, [])
  | .slice b o len _ _ sz' => bif Nat.beq sz' sz then (cut (rdA h b) o (len * sz)).map fun l => (len, l) else none
  | .str s => bif Nat.beq sz 1 then some (s.length, s.map fun b => .int .u8 b.toNat) else none
  | _ => none

def isIntD : TypeDesc → Bool
  | .int _ => true
  | _ => false

def appendA (h : Heap) (fresh : Nat) (ts tx : TypeId) (s x : AV) : Option (AV × Heap) :=
  match P.underlying ts, P.underlying tx with
  | some (.slice e), some dx => match zeroCellsA P e, P.info? e with
    | some z, some i =>
      if (isIntD dx || Nat.beq i.size 0) = true then none else
      match cellsOfA h i.size x with
      | none => none
      | some (n, new) =>
        match s with
        | .nils => if (Nat.beq n 0) = true then some (.nils, h) else
          if (Nat.ble (n * i.bytes) 140737488355328 && Nat.ble n 140737488355328) = true then some (.slice fresh 0 n n false i.size, newA h fresh new) else none
        | .slice b o len cap ex sz =>
          if (!Nat.beq sz i.size) = true then none else
          if (Nat.beq n 0) = true then some (s, h) else
          if (!(Nat.ble ((len + n) * i.bytes) 140737488355328 && Nat.ble (len + n) 140737488355328)) = true then none else
          if (Nat.ble (len + n) cap) = true then
            match pokeA h b (o + len * sz) new with
            | some h' => some (.slice b o (len + n) cap ex sz, h')
            | none => none
          else match h.get b with
            | some (.cells cs md anc) => match cut cs o (len * sz) with
              | none => none
              | some old =>
                if (ex) = true then some (.slice fresh 0 (len + n) (len + n) false sz, newA h fresh (old ++ new)) else
                match md with
                | .rw p => if (Nat.beq (o + len * sz) cs.length && new.all AV.isCell) = true then
                    some (.slice fresh 0 (len + n) (len + n) false sz, (h.put b (some (.cells cs .st anc))).put fresh (some (.cells (old ++ new) (.rw p) (b :: anc))))
                  else none
                | _ => none
            | _ => none
        | _ => none
    | _, _ => none
  | _, _ => none

def copyA (h : Heap) (td : TypeId) (d s : AV) : Option (AV × Heap) :=
  match P.underlying td with
  | some (.slice e) => match sizeA P e with
    | some sz => if (Nat.beq sz 0) = true then none else
      match cellsOfA h sz s with
      | none => none
      | some (n, cs) => match d with
        | .nils => some (.int .i64 0, h)
        | .slice b o len _ _ sz' => if (!Nat.beq sz' sz) = true then none else
          if (Nat.beq (Nat.min n len) 0) = true then some (.int .i64 0, h) else
          match pokeA h b o (cs.take (Nat.min n len * sz)) with
          | some h' => some (.int .i64 (Nat.min n len : Nat), h')
          | none => none
        | _ => none
    | none => none
  | _ => none

def clearA (h : Heap) (t : TypeId) (x : AV) : Option (AV × Heap) :=
  match P.underlying t with
  | some (.slice e) => match x with
    | .nils => some (undefA, h)
    | .slice b o len _ _ _ => if (Nat.beq len 0) = true then some (undefA, h) else
      match zeroCellsA P e with
      | some z => if (Nat.blt 0 z.length) = true then
          match pokeA h b o (times len z) with
          | some h' => some (undefA, h')
          | none => none
        else none
      | none => none
    | _ => none
  | _ => none

/-- It is a map, not a text that is gone through. -/
def plainE : List (AV × AV × Nat) → Bool
  | (.tup _, _, _) :: _ => false
  | _ => true

def lenA (h : Heap) (t : TypeId) (x : AV) : Option AV :=
  match P.underlying t with
  | some .string => match x with
    | .str s => some (.int .i64 s.length)
    | _ => none
  | some (.array n _) => some (.int .i64 n)
  | some (.slice _) => match x with
    | .nils => some (.int .i64 0)
    | .slice _ _ len _ _ _ => some (.int .i64 len)
    | _ => none
  | some (.map _ _) => match x with
    | .nilm => some (.int .i64 0)
    | .map r => match h.get r with
      | some (.map es _) => bif plainE es then some (.int .i64 es.length) else none
      | _ => none
    | _ => none
  | _ => none

def minmaxA (mx : Bool) : AV → List AV → Option AV
  | x, [] => some x
  | .int k a, .int _ b :: r => minmaxA mx (.int k (if mx then (if b > a then b else a) else (if b < a then b else a))) r
  | _, _ => none

/-! ### Maps with keys of one cell -/
def keyEq (d : TypeDesc) : AV → AV → Option Bool
  | .int k a, .int k' b => match d with
    | .int _ => if k = k' then some (a == b) else none
    | _ => none
  | .str a, .str b => match d with
    | .string => some (a == b)
    | _ => none
  | .bool a, .bool b => match d with
    | .bool => some (a == b)
    | _ => none
  | _, _ => none

def findA (d : TypeDesc) (k : AV) : List (AV × AV × Nat) → Nat → Option (Option (Nat × AV))
  | [], _ => some none
  | e :: es, i =>
    match keyEq d k e.1 with
    | some true => some (some (i, e.2.1))
    | some false => findA d k es (i + 1)
    | none => none

def keyOk : TypeDesc → AV → Bool
  | .int _, .int _ _ => true
  | .string, .str _ => true
  | .bool, .bool _ => true
  | _, _ => false

def setNth : List (AV × AV × Nat) → Nat → AV → List (AV × AV × Nat)
  | [], _, _ => []
  | e :: es, 0, v => (e.1, v, e.2.2) :: es
  | e :: es, n + 1, v => e :: setNth es n v

def lookupA (h : Heap) (t : TypeId) (x k : AV) (ok : Bool) : Option AV :=
  match P.underlying t with
  | some (.map kt et) => match P.underlying kt with
    | some d => bif keyOk d k then
        match x with
        | .nilm => (zeroA P et).map fun z => if ok then .tup [z, .bool false] else z
        | .map r => match h.get r with
          | some (.map es _) => match findA d k es 0 with
            | some (some (_, v)) => some (if ok then .tup [v, .bool true] else v)
            | some none => (zeroA P et).map fun z => if ok then .tup [z, .bool false] else z
            | none => none
          | _ => none
        | _ => none
      else none
    | none => none
  | _ => none

def mapUpdateA (h : Heap) (t : TypeId) (m k v : AV) : Option Heap :=
  match P.underlying t with
  | some (.map kt _) => match P.underlying kt with
    | some d => bif keyOk d k then
        match m with
        | .map r => match h.get r with
          | some (.map es c) => match findA d k es 0 with
            | some (some (i, _)) => some (h.put r (some (.map (setNth es i v) c)))
            | some none => some (h.put r (some (.map (es ++ [(k, v, c)]) (c + 1))))
            | none => none
          | _ => none
        | _ => none
      else none
    | none => none
  | _ => none

/-! ### Conversions -/
def bytesA : List AV → Option (List UInt8)
  | [] => some []
  | .int .u8 n :: r => (bytesA r).map (UInt8.ofNat n.toNat :: ·)
  | _ => none

def convA (h : Heap) (fresh : Nat) (src dst : TypeId) (x : AV) : Option (AV × Heap) :=
  match P.underlying src, P.underlying dst with
  | some ds, some dd => match x with
    | .int _ n => match dd with
      | .int k => some (.int k (k.wrap n), h)
      | .string => some (.str (Utf8.encode n).data.toList, h)
      | _ => none
    | .str s => match dd with
      | .string => some (x, h)
      | .slice e => match P.underlying e with
        | some (.int .u8) => bif Nat.ble s.length 140737488355328 then some (.slice fresh 0 s.length s.length false 1, newA h fresh (s.map fun b => .int .u8 b.toNat) false) else none
        | _ => none
      | _ => none
    | .nils => match ds, dd with
      | .slice e, .string => match P.underlying e with
        | some (.int .u8) => some (.str [], h)
        | _ => none
      | _, _ => none
    | .slice b o len _ _ sz => match ds, dd with
      | .slice e, .string => match P.underlying e with
        | some (.int .u8) => bif Nat.beq sz 1 then
            match cut (rdA h b) o len with
              | some l => (bytesA l).map fun s => (.str s, h)
              | none => none
          else none
        | _ => none
      | .slice _, .slice e => match P.underlying e with
        | some (.int .u8) => if (Nat.beq src dst && Nat.blt 0 len) = true then
            match h.get b with
            | some (.cells cs (.rw true) anc) => some (x, h.put b (some (.cells cs (.rw false) anc)))
            | _ => none
          else none
        | _ => none
      | _, _ => none
    | _ => none
  | _, _ => none

def assertA (x : AV) (xt a : TypeId) (ok : Bool) : Option AV :=
  match P.underlying a with
  | some (.interface _) => none
  | some _ => match x with
    | .nili => bif ok then (zeroA P a).map fun z => .tup [z, .bool false] else none
    | .iface t v => if t = a then some (if ok then .tup [v, .bool true] else v) else
      bif ok then (zeroA P a).map fun z => .tup [z, .bool false] else none
    | _ => none
  | none => none

end

/-! ### Going through a text -/
def rangeA (h : Heap) (fresh : Nat) (s : List UInt8) : Option (AV × Heap) := some (.ptr fresh 0, h.put fresh (some (.map [(.tup [.str s], .junk, 0)] 0)))

/-- The letter at a place, and how many bytes it takes. -/
def letterA (s : List UInt8) (i : Nat) : Nat × Nat :=
  match s.drop i with
  | [] => (0, 1)
  | b :: _ => bif Nat.blt b.toNat 128 then (b.toNat, 1) else Utf8.decode ⟨s.toArray⟩ i

def nextA (h : Heap) (v : AV) : Option (AV × Heap) :=
  match v with
  | .ptr b 0 => match h.get b with
    | some (.map [(.tup [.str s], .junk, 0)] pos) => bif Nat.blt pos s.length then
        match letterA s pos with
        | (c, wd) => some (.tup [.bool true, .int .i64 pos, .int .i32 c], h.put b (some (.map [(.tup [.str s], .junk, 0)] (pos + wd))))
      else some (.tup [.bool false], h)
    | _ => none
  | _ => none

/-- The array that a slice's first places are. -/
def arrayAtA (P : Program) (arr : TypeId) (v : AV) : Option AV :=
  match P.underlying arr with
  | some (.array n _) => match v with
    | .slice b o len _ _ _ => bif Nat.ble n len && Nat.blt 0 n then some (.ptr b o) else none
    | _ => none
  | _ => none

/-! ### Frames -/
structure Env where
  sz : Nat
  tbl : Tr AV

def Env.get (e : Env) (t : Nat) : AV := (e.tbl.get t).getD undefA
def Env.put (e : Env) (t : Nat) (v : AV) : Env := { e with tbl := e.tbl.set t (some v) }
theorem Env.get_put (e : Env) (t : Nat) (v : AV) (u : Nat) : (e.put t v).get u = if t = u then v else e.get u := by
  unfold Env.get Env.put
  simp only [Tr.get_set]
  split <;> rfl
theorem Env.sz_put (e : Env) (t : Nat) (v : AV) : (e.put t v).sz = e.sz := rfl

def initT : List AV → Nat → Tr AV → Tr AV
  | [], _, t => t
  | v :: vs, n, t => initT vs (n + 1) (t.set n (some v))

def Env.init (args : List AV) (ntmps : Nat) : Env := { sz := args.length + (ntmps - args.length), tbl := initT args 0 .nil }

def opv (e : Env) : Operand → Option AV
  | .tmp t => some (e.get t)
  | .const v => ofConst v
  | .global _ => none
  | .func f => some (.fn f [] [])

def opvs (e : Env) : List Operand → Option (List AV)
  | [] => some []
  | x :: xs => match opv e x with
    | none => none
    | some v => match opvs e xs with
      | none => none
      | some vs => some (v :: vs)

def parts (e : Env) : List (Nat × Operand) → Option (List (Nat × AV))
  | [] => some []
  | (i, x) :: xs => match opv e x with
    | none => none
    | some v => match parts e xs with
      | none => none
      | some vs => some ((i, v) :: vs)

def opvO (e : Env) : Option Operand → Option (Option AV)
  | none => some none
  | some x => (opv e x).map some

/-! ### One operation -/
/-- What an operation comes to: a value, a call, a panic. -/
inductive Res where
  | val (v : AV) (h : Heap)
  | enter (f : FuncId) (args : List AV)
  | panic (v : AV)

def pureR (h : Heap) : Option AV → Option Res
  | some v => some (.val v h)
  | none => none
def newR : Option (AV × Heap) → Option Res
  | some (v, h) => some (.val v h)
  | none => none
def skipR : Option Heap → Option Res
  | some h => some (.val undefA h)
  | none => none

def builtinA (P : Program) (h : Heap) (fresh : Nat) (b : Builtin) (ts : List TypeId) (args : List AV) : Option Res :=
  match b, ts, args with
  | .append, [ts, tx], [s, x] => newR (appendA P h fresh ts tx s x)
  | .copy, td :: _, [d, s] => newR (copyA P h td d s)
  | .len, t :: _, [x] => pureR h (lenA P h t x)
  | .clear, t :: _, [x] => newR (clearA P h t x)
  | .min, _, x :: r => pureR h (minmaxA false x r)
  | .max, _, x :: r => pureR h (minmaxA true x r)
  | _, _, _ => none

def isConst : Operand → Bool
  | .const _ => true
  | _ => false

def bind2 {α : Type} (x y : Option AV) (f : AV → AV → Option α) : Option α :=
  match x, y with
  | some x, some y => f x y
  | _, _ => none

def execA (P : Program) (e : Env) (h : Heap) (fresh : Nat) (o : Oper) : Option Res :=
  match o.op with
  | .move x => pureR h (opv e x)
  | .assign x => pureR h (opv e x)
  | .pick c a b => match opv e c with
    | some (.bool c) => pureR h (if c then opv e a else opv e b)
    | _ => none
  | .alloc t => newR (allocA P h fresh t)
  | .box _ x => match opv e x with
    | some v => newR (boxA h fresh v)
    | none => none
  | .build t ps => match parts e ps.toList with
    | some ps => pureR h (buildA P t ps)
    | none => none
  | .buildSlice t n ps => match parts e ps.toList with
    | some ps => newR (buildSliceA P h fresh t n ps)
    | none => none
  | .load t a => match opv e a with
    | some a => pureR h (loadA P h t a)
    | none => none
  | .store t a x => bind2 (opv e a) (opv e x) fun a x => skipR (storeA P h t a x)
  | .nilCheck x => match opv e x with
    | some (.ptr b o) => some (.val (.ptr b o) h)
    | some (.fn f a b) => some (.val (.fn f a b) h)
    | _ => none
  | .binOp op t x y _ => bind2 (opv e x) (opv e y) fun a b => pureR h (binA P h op t (isConst x || isConst y) a b)
  | .unOp op _ x => match opv e x with
    | some v => pureR h (unA op v)
    | none => none
  | .convert s d x => match opv e x with
    | some v => newR (convA P h fresh s d v)
    | none => none
  | .makeInterface t x => match P.underlying t, opv e x with
    | some (.interface _), _ => none
    | some _, some v => some (.val (.iface t v) h)
    | _, _ => none
  | .makeFunc (.func f) first captured => match opvs e first.toList, opvs e captured.toList with
    | some a, some b => some (.val (.fn f a b) h)
    | _, _ => none
  | .makeMap _ none => some (.val (.map fresh) (h.put fresh (some (.map [] 0))))
  | .makeSlice t l c => bind2 (opv e l) (opv e c) fun l c => newR (makeSliceA P h fresh t l c)
  | .slice t x lo hi mx => match opv e x, opvO e lo, opvO e hi, opvO e mx with
    | some x, some lo, some hi, some mx => pureR h (sliceOfA P h t x lo hi mx)
    | _, _, _, _ => none
  | .fieldAddr t x f => match opv e x with
    | some v => pureR h (fieldAddrA P t v f)
    | none => none
  | .field t x f => match opv e x with
    | some v => pureR h (fieldA P t v f)
    | none => none
  | .indexAddr t x i => bind2 (opv e x) (opv e i) fun x i => pureR h (indexAddrA P t x i)
  | .index t x i => bind2 (opv e x) (opv e i) fun x i => pureR h (indexA P t x i)
  | .lookup t m k ok => bind2 (opv e m) (opv e k) fun m k => pureR h (lookupA P h t m k ok)
  | .mapUpdate t m k v => match opv e v with
    | some v => bind2 (opv e m) (opv e k) fun m k => skipR (mapUpdateA P h t m k v)
    | none => none
  | .insert t m k v => match opv e v with
    | some v => bind2 (opv e m) (opv e k) fun m k => skipR (mapUpdateA P h t m k v)
    | none => none
  | .typeAssert x xt a ok => match opv e x with
    | some v => pureR h (assertA P v xt a ok)
    | none => none
  | .extract t i => match opv e t with
    | some (.tup vs) => pureR h vs[i]?
    | _ => none
  | .sliceToArrayPointer arr x => match opv e x with
    | some v => pureR h (arrayAtA P arr v)
    | none => none
  | .range t x => match P.underlying t, opv e x with
    | some .string, some (.str s) => newR (rangeA h fresh s)
    | _, _ => none
  | .next it true => match opv e it with
    | some v => newR (nextA h v)
    | none => none
  | .call c => match opvs e c.args.toList with
    | none => none
    | some args => match c.callee with
      | .builtin b => builtinA P h fresh b c.argTypes.toList args
      | .value f => match opv e f with
        | some (.fn f first captured) => some (.enter f (first ++ args ++ captured))
        | _ => none
      | .invoke _ _ => none
  | .panic x => match opv e x with
    | some (.iface t v) => some (.panic (.iface t v))
    | _ => none
  | _ => none

/-- Does it make a block? -/
def makes (o : Oper) : Bool :=
  match o.op with
  | .alloc _ | .box _ _ | .buildSlice _ _ _ | .makeMap _ _ | .makeSlice _ _ _ | .convert _ _ _ | .range _ _ => true
  | .call c => match c.callee with
    | .builtin .append => true
    | _ => false
  | _ => false

def wantedA (ops : Array Oper) (e : Env) (o : Oper) : Option Bool :=
  match o.guard with
  | none => some true
  | some (j, want) => match (ops[j]?).bind (·.dst) with
    | none => some false
    | some d => bif Nat.blt d e.sz then
        match e.get d with
        | .bool b => some (b == want)
        | .junk => none
        | _ => some false
      else none

/-- Into its slot. -/
def putA (e : Env) (d : Option Tmp) (v : AV) : Option Env :=
  match d with
  | none => some e
  | some d => bif Nat.blt d e.sz then some (e.put d v) else none

/-! ### Code -/
inductive Out where
  | norm
  | exit (id : Nat)
  | ret
  | panic (v : AV)

/-- How a call ends. -/
inductive Fin where
  | ret (v : AV)
  | panic (v : AV)

structure St where
  env : Env
  heap : Heap

/-- The operations of a region, in the order of the text. 'base': the first of the numbers that are kept for what they make. -/
def opsA (P : Program) (call : FuncId → List AV → Heap → Option (Fin × Heap)) (all : Array Oper) : List Oper → Nat → Env → Heap → Option (Out × St)
  | [], _, e, h => some (.norm, ⟨e, h⟩)
  | o :: os, fresh, e, h =>
    match wantedA all e o with
    | none => none
    | some false => match putA e o.dst undefA with
      | some e' => opsA P call all os (fresh + 1) e' h
      | none => none
    | some true => match execA P e h fresh o with
      | none => none
      | some (.val v h') => match putA e o.dst v with
        | some e' => opsA P call all os (fresh + 1) e' h'
        | none => none
      | some (.enter f args) => match call f args h with
        | some (.ret v, h') => match putA e o.dst v with
          | some e' => opsA P call all os (fresh + 1) e' h'
          | none => none
        | some (.panic v, h') => some (.panic v, ⟨e, h'⟩)
        | none => none
      | some (.panic v) => some (.panic v, ⟨e, h⟩)

def reserve (ops : Array Oper) : Nat := bif ops.toList.any makes then ops.size else 0

def resultsA (P : Program) (rs : List ResultVar) (e : Env) (h : Heap) : Option (List AV) :=
  match rs with
  | [] => some []
  | .tmp t :: r => match resultsA P r e h with
    | some vs => some (e.get t :: vs)
    | none => none
  | .cell a t :: r => match loadA P h t (e.get a) with
    | some v => match resultsA P r e h with
      | some vs => some (v :: vs)
      | none => none
    | none => none

def oneOf : List AV → AV
  | [v] => v
  | vs => .tup vs

/-! ### Functions without a body -/
def add64A : List AV → Option AV
  | [.int .u64 x, .int .u64 y, .int .u64 c] => if 0 ≤ x ∧ 0 ≤ y ∧ 0 ≤ c ∧ c ≤ 1 then some (.tup [.int .u64 ((x + y + c) % 18446744073709551616), .int .u64 ((x + y + c) / 18446744073709551616)]) else none
  | _ => none

def firstAt (c : UInt8) : List UInt8 → Nat → Option Nat
  | [], _ => none
  | b :: bs, n => if b = c then some n else firstAt c bs (n + 1)

def indexByteA : List AV → Option AV
  | [.str s, .int .u8 c] => some (.int .i64 (match firstAt c.toNat.toUInt8 s 0 with | some i => (i : Int) | none => -1))
  | _ => none

def countA : List AV → Option AV
  | [.str s, .int .u8 c] => some (.int .i64 ((s.count c.toNat.toUInt8 : Nat) : Int))
  | _ => none

def externA (fn : Func) (args : List AV) : Option AV :=
  if fn.origin = "" then
    if fn.name = "math/bits.Add64" then add64A args
    else if fn.name = "internal/bytealg.IndexByteString" then indexByteA args
    else if fn.name = "internal/bytealg.CountString" then countA args
    else none
  else none

end Go.Proofs.YtahdafekballcaaGreat.AM
