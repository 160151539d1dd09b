/-
  AM, part 25: code turned into functions, once; then only the functions run.
-/
import Derived.Test.YtahdafekballcaaGreatAm24
namespace Go.Proofs.YtahdafekballcaaGreat.AM
open Go Go.RowKit
set_option linter.unusedVariables false
set_option linter.unusedSimpArgs false

abbrev Cl := FuncId → List AV → Heap → Rs

/-- One operation, or some. -/
structure OF where
  run : Cl → Nat → Ev → Heap → (Ev → Heap → Rs) → Rs

def failF : OF := ⟨fun _ _ _ _ _ => none⟩

structure DF where
  put : Ev → AV → (Ev → Rs) → Rs

def dstC (sz : Nat) : Option Tmp → DF
  | none => ⟨fun e _ k => k e⟩
  | some d => bif Nat.blt d sz && Nat.blt d 512 then (match sl d with | ⟨_, p⟩ => ⟨p⟩) else ⟨fun _ _ _ => none⟩

def vaC : Operand → Option (Ev → AV)
  | .tmp t => bif Nat.blt t 512 then (match sl t with | ⟨g, _⟩ => some g) else none
  | .const v => match ofConst v with
    | some a => some fun _ => a
    | none => none
  | .global _ => none
  | .func f => some fun _ => .fn f [] []

def vasC : List Operand → Option (Ev → List AV)
  | [] => some fun _ => []
  | x :: xs => match vaC x with
    | none => none
    | some g => match vasC xs with
      | none => none
      | some gs => some fun e => g e :: gs e

/-- What an operation reads, and what it comes to. -/
structure AF where
  xs : List Operand
  run : Nat → Heap → List AV → Option Res

section
variable (P : Program)

def apC (o : Op) : Option AF :=
  match o with
  | .alloc t => some ⟨[], fun fr h _ => newR (allocA P h fr t)⟩
  | .box _ x => some ⟨[x], fun fr h vs => match vs with
    | [v] => newR (boxA h fr v)
    | _ => none⟩
  | .build t ps => some ⟨ps.toList.map (·.2), fun _ h vs => pureR h (buildA P t (List.zip (ps.toList.map (·.1)) vs))⟩
  | .buildSlice t n ps => some ⟨ps.toList.map (·.2), fun fr h vs => newR (buildSliceA P h fr t n (List.zip (ps.toList.map (·.1)) vs))⟩
  | .load t a => some ⟨[a], fun _ h vs => match vs with
    | [a] => pureR h (loadA P h t a)
    | _ => none⟩
  | .store t a x => some ⟨[a, x], fun _ h vs => match vs with
    | [a, x] => skipR (storeA P h t a x)
    | _ => none⟩
  | .nilCheck x => some ⟨[x], fun _ h vs => match vs with
    | [.ptr b o] => some (.val (.ptr b o) h)
    | [.fn f a b] => some (.val (.fn f a b) h)
    | _ => none⟩
  | .binOp op t x y _ => some ⟨[x, y], fun _ h vs => match vs with
    | [a, b] => pureR h (binA P h op t (isConst x || isConst y) a b)
    | _ => none⟩
  | .unOp op _ x => some ⟨[x], fun _ h vs => match vs with
    | [v] => pureR h (unA op v)
    | _ => none⟩
  | .convert s d x => some ⟨[x], fun fr h vs => match vs with
    | [v] => newR (convA P h fr s d v)
    | _ => none⟩
  | .makeInterface t x => match P.underlying t with
    | some (.interface _) => none
    | some _ => some ⟨[x], fun _ h vs => match vs with
      | [v] => some (.val (.iface t v) h)
      | _ => none⟩
    | none => none
  | .makeFunc (.func f) first captured => some ⟨first.toList ++ captured.toList, fun _ h vs => some (.val (.fn f (vs.take first.toList.length) (vs.drop first.toList.length)) h)⟩
  | .makeMap _ none => some ⟨[], fun fr h _ => some (.val (.map fr) (h.put fr (some (.map [] 0))))⟩
  | .makeSlice t l c => some ⟨[l, c], fun fr h vs => match vs with
    | [l, c] => newR (makeSliceA P h fr t l c)
    | _ => none⟩
  | .slice t x none none none => some ⟨[x], fun _ h vs => match vs with
    | [x] => pureR h (sliceOfA P h t x none none none)
    | _ => none⟩
  | .slice t x (some lo) none none => some ⟨[x, lo], fun _ h vs => match vs with
    | [x, lo] => pureR h (sliceOfA P h t x (some lo) none none)
    | _ => none⟩
  | .slice t x none (some hi) none => some ⟨[x, hi], fun _ h vs => match vs with
    | [x, hi] => pureR h (sliceOfA P h t x none (some hi) none)
    | _ => none⟩
  | .slice t x (some lo) (some hi) none => some ⟨[x, lo, hi], fun _ h vs => match vs with
    | [x, lo, hi] => pureR h (sliceOfA P h t x (some lo) (some hi) none)
    | _ => none⟩
  | .fieldAddr t x f => some ⟨[x], fun _ h vs => match vs with
    | [v] => pureR h (fieldAddrA P t v f)
    | _ => none⟩
  | .field t x f => some ⟨[x], fun _ h vs => match vs with
    | [v] => pureR h (fieldA P t v f)
    | _ => none⟩
  | .indexAddr t x i => some ⟨[x, i], fun _ h vs => match vs with
    | [x, i] => pureR h (indexAddrA P t x i)
    | _ => none⟩
  | .index t x i => some ⟨[x, i], fun _ h vs => match vs with
    | [x, i] => pureR h (indexA P t x i)
    | _ => none⟩
  | .lookup t m k ok => some ⟨[m, k], fun _ h vs => match vs with
    | [m, k] => pureR h (lookupA P h t m k ok)
    | _ => none⟩
  | .mapUpdate t m k v => some ⟨[v, m, k], fun _ h vs => match vs with
    | [v, m, k] => skipR (mapUpdateA P h t m k v)
    | _ => none⟩
  | .insert t m k v => some ⟨[v, m, k], fun _ h vs => match vs with
    | [v, m, k] => skipR (mapUpdateA P h t m k v)
    | _ => none⟩
  | .typeAssert x xt a ok => some ⟨[x], fun _ h vs => match vs with
    | [v] => pureR h (assertA P v xt a ok)
    | _ => none⟩
  | .extract t i => some ⟨[t], fun _ h vs => match vs with
    | [.tup l] => pureR h l[i]?
    | _ => none⟩
  | .sliceToArrayPointer arr x => some ⟨[x], fun _ h vs => match vs with
    | [v] => pureR h (arrayAtA P arr v)
    | _ => none⟩
  | .range t x => match P.underlying t with
    | some .string => some ⟨[x], fun fr h vs => match vs with
      | [.str s] => newR (rangeA h fr s)
      | _ => none⟩
    | _ => none
  | .next it true => some ⟨[it], fun _ h vs => match vs with
    | [v] => newR (nextA h v)
    | _ => none⟩
  | .call c => match c.callee with
    | .builtin b => some ⟨c.args.toList, fun fr h vs => builtinA P h fr b c.argTypes.toList vs⟩
    | .value (.func f) => some ⟨c.args.toList, fun _ h vs => some (.enter f (vs ++ []))⟩
    | .value f => some ⟨f :: c.args.toList, fun _ h vs => match vs with
      | .fn f first captured :: args => some (.enter f (first ++ args ++ captured))
      | _ => none⟩
    | .invoke _ _ => none
  | .panic x => some ⟨[x], fun _ h vs => match vs with
    | [.iface t v] => some (.panic (.iface t v))
    | _ => none⟩
  | _ => none

/-! ### Numbers that are not below nought, and do not overflow -/
def kcode : IntKind → Nat
  | .i8 => 0 | .i16 => 1 | .i32 => 2 | .i64 => 3 | .u8 => 4 | .u16 => 5 | .u32 => 6 | .u64 => 7
def klim : IntKind → Nat
  | .i8 => 127 | .i16 => 32767 | .i32 => 2147483647 | .i64 => 9223372036854775807 | .u8 => 255 | .u16 => 65535 | .u32 => 4294967295 | .u64 => 18446744073709551615

/-- One more than a number of this kind that is not below nought; else 0. -/
def natOf (kc : Nat) : AV → Nat
  | .int k n => match n with
    | .ofNat x => bif Nat.beq (kcode k) kc then Nat.succ x else 0
    | .negSucc _ => 0
  | _ => 0

/-- Two numbers of one kind, not below nought; else. -/
def nat2 (kc : Nat) (a b : AV) (f : Nat → Nat → Rs) (g : Unit → Rs) : Rs :=
  Nat.casesOn (motive := fun _ => Rs) (natOf kc a) (g ()) fun x => Nat.casesOn (motive := fun _ => Rs) (natOf kc b) (g ()) fun y => f x y

def keepN (k : IntKind) (lim s : Nat) (f : AV → Rs) (g : Unit → Rs) : Rs := bif Nat.ble s lim then strictN s fun s => f (.int k (.ofNat s)) else g ()

def slowB (h : Heap) (op : BinOp) (t : TypeId) (con : Bool) (a b : AV) (k : AV → Rs) : Rs :=
  match binA P h op t con a b with
  | some v => k v
  | none => none

structure BF where
  run : Heap → AV → AV → (AV → Rs) → Rs

def binI (kd : IntKind) (kc lim : Nat) (op : BinOp) (t : TypeId) (con : Bool) : BF :=
  match op with
  | .add => ⟨fun h a b k => nat2 kc a b (fun x y => keepN kd lim (Nat.add x y) k fun _ => slowB P h .add t con a b k) fun _ => slowB P h .add t con a b k⟩
  | .mul => ⟨fun h a b k => nat2 kc a b (fun x y => keepN kd lim (Nat.mul x y) k fun _ => slowB P h .mul t con a b k) fun _ => slowB P h .mul t con a b k⟩
  | .sub => ⟨fun h a b k => nat2 kc a b (fun x y => bif Nat.ble y x then keepN kd lim (Nat.sub x y) k (fun _ => slowB P h .sub t con a b k) else slowB P h .sub t con a b k) fun _ => slowB P h .sub t con a b k⟩
  | .lss => ⟨fun h a b k => nat2 kc a b (fun x y => bif Nat.blt x y then k (.bool true) else k (.bool false)) fun _ => slowB P h .lss t con a b k⟩
  | .leq => ⟨fun h a b k => nat2 kc a b (fun x y => bif Nat.ble x y then k (.bool true) else k (.bool false)) fun _ => slowB P h .leq t con a b k⟩
  | .gtr => ⟨fun h a b k => nat2 kc a b (fun x y => bif Nat.blt y x then k (.bool true) else k (.bool false)) fun _ => slowB P h .gtr t con a b k⟩
  | .geq => ⟨fun h a b k => nat2 kc a b (fun x y => bif Nat.ble y x then k (.bool true) else k (.bool false)) fun _ => slowB P h .geq t con a b k⟩
  | .eql => ⟨fun h a b k => nat2 kc a b (fun x y => bif Nat.beq x y then k (.bool true) else k (.bool false)) fun _ => slowB P h .eql t con a b k⟩
  | .neq => ⟨fun h a b k => nat2 kc a b (fun x y => bif Nat.beq x y then k (.bool false) else k (.bool true)) fun _ => slowB P h .neq t con a b k⟩
  | op => ⟨fun h a b k => slowB P h op t con a b k⟩

def binC (op : BinOp) (t : TypeId) (con : Bool) : BF :=
  match P.underlying t with
  | some (.int kd) => match strictN (kcode kd) (fun kc => strictN (klim kd) fun lim => binI P kd kc lim op t con) with
    | ⟨f⟩ => ⟨f⟩
  | _ => ⟨fun h a b k => slowB P h op t con a b k⟩

/-! ### One operation -/
def resC (dr : Bool) (cl : Cl) (p : Ev → AV → (Ev → Rs) → Rs) (r : Option Res) (e : Ev) (h : Heap) (k : Ev → Heap → Rs) : Rs :=
  match r with
  | none => none
  | some (.val v h') => p e v fun e => k e h'
  | some (.enter f args) => match cl f args h with
    | some (.ret v, h') => p e v fun e => k e h'
    | some (.panic v, h') => bif dr then none else some (.panic v, h')
    | none => none
  | some (.panic v) => bif dr then none else some (.panic v, h)

def slowC (dr : Bool) (p : Ev → AV → (Ev → Rs) → Rs) (op : Op) (i : Nat) : OF :=
  match apC P op with
  | none => failF
  | some ⟨xs, f⟩ => match vasC xs with
    | none => failF
    | some gs => ⟨fun cl b e h k => resC dr cl p (f (b + i) h (gs e)) e h k⟩

def bodyC (sz : Nat) (dr : Bool) (o : Oper) (i : Nat) : OF :=
  match dstC sz o.dst with
  | ⟨p⟩ => match o.op with
    | .move x => match vaC x with
      | some g => ⟨fun _ _ e h k => p e (g e) fun e => k e h⟩
      | none => failF
    | .assign x => match vaC x with
      | some g => ⟨fun _ _ e h k => p e (g e) fun e => k e h⟩
      | none => failF
    | .pick c x y => match vaC c with
      | some gc => match vaC x with
        | some gx => match vaC y with
          | some gy => ⟨fun _ _ e h k => match gc e with
            | .bool true => p e (gx e) fun e => k e h
            | .bool false => p e (gy e) fun e => k e h
            | _ => none⟩
          | none => failF
        | none => failF
      | none => failF
    | .binOp op t x y _ => match vaC x with
      | some gx => match vaC y with
        | some gy => match binC P op t (isConst x || isConst y) with
          | ⟨f⟩ => ⟨fun _ _ e h k => f h (gx e) (gy e) fun v => p e v fun e => k e h⟩
        | none => failF
      | none => failF
    | .load t a => match vaC a with
      | some g => ⟨fun _ _ e h k => match loadA P h t (g e) with
        | some v => p e v fun e => k e h
        | none => none⟩
      | none => failF
    | .fieldAddr t x f => match vaC x with
      | some g => ⟨fun _ _ e h k => match fieldAddrA P t (g e) f with
        | some v => p e v fun e => k e h
        | none => none⟩
      | none => failF
    | .field t x f => match vaC x with
      | some g => ⟨fun _ _ e h k => match fieldA P t (g e) f with
        | some v => p e v fun e => k e h
        | none => none⟩
      | none => failF
    | .extract x n => match vaC x with
      | some g => ⟨fun _ _ e h k => match g e with
        | .tup l => match l[n]? with
          | some v => p e v fun e => k e h
          | none => none
        | _ => none⟩
      | none => failF
    | .indexAddr t x y => match vaC x with
      | some gx => match vaC y with
        | some gy => ⟨fun _ _ e h k => match indexAddrA P t (gx e) (gy e) with
          | some v => p e v fun e => k e h
          | none => none⟩
        | none => failF
      | none => failF
    | .store t x y => match vaC x with
      | some gx => match vaC y with
        | some gy => ⟨fun _ _ e h k => match storeA P h t (gx e) (gy e) with
          | some h' => p e undefA fun e => k e h'
          | none => none⟩
        | none => failF
      | none => failF
    | op => slowC P dr p op i

def guardC (sz : Nat) (all : Array Oper) (o : Oper) (r : OF) : OF :=
  match o.guard with
  | none => r
  | some (j, want) => match dstC sz o.dst with
    | ⟨p⟩ => match (all[j]?).bind (·.dst) with
      | none => ⟨fun _ _ e h k => p e undefA fun e => k e h⟩
      | some d => bif Nat.blt d sz && Nat.blt d 512 then
          match sl d with
          | ⟨g, _⟩ => match r, want with
            | ⟨f⟩, true => ⟨fun cl b e h k => match g e with
              | .bool true => f cl b e h k
              | .junk => none
              | _ => p e undefA fun e => k e h⟩
            | ⟨f⟩, false => ⟨fun cl b e h k => match g e with
              | .bool false => f cl b e h k
              | .junk => none
              | _ => p e undefA fun e => k e h⟩
        else failF

def opsC (sz : Nat) (all : Array Oper) : List Oper → Nat → OF
  | [], _ => ⟨fun _ _ e h k => k e h⟩
  | o :: os, i => match guardC sz all o (bodyC P sz false o i) with
    | ⟨f⟩ => match opsC sz all os (i + 1) with
      | ⟨g⟩ => ⟨fun cl b e h k => f cl b e h fun e h => g cl b e h k⟩

/-! ### Regions that draw -/
/-- A read that has been made: may it be asked again? -/
structure Ck where
  i : Nat
  run : Heap → Bool

structure XF where
  run : Cl → Nat → Ev → Heap → List Ck → (Ev → Heap → Rs) → Rs

def failX : XF := ⟨fun _ _ _ _ _ _ => none⟩

def checks (d : List (List Nat)) (c : Nat) (h : Heap) : List Ck → Bool
  | [] => true
  | r :: rs => ((depsAt d c).contains r.i || r.run h) && checks d c h rs

def readC (sz : Nat) (all : Array Oper) (o : Oper) (i : Nat) (g : Cl → Nat → Ev → Heap → List Ck → (Ev → Heap → Rs) → Rs) : XF :=
  match o.guard with
  | some _ => failX
  | none => match dstC sz o.dst with
    | ⟨p⟩ => match apC P o.op with
      | none => failX
      | some ⟨xs, f⟩ => match vasC xs with
        | none => failX
        | some gs => ⟨fun cl b e h rs k => match f (b + i) h (gs e) with
          | some (.val v h') => p e v fun e' => g cl b e' h' (⟨i, fun h2 => match f (b + i) h2 (gs e) with
            | some (.val v2 _) => AV.beq v2 v
            | _ => false⟩ :: rs) k
          | _ => none⟩

/-- A read behind a guard. -/
def readG (sz : Nat) (all : Array Oper) (o : Oper) (i : Nat) (g : Cl → Nat → Ev → Heap → List Ck → (Ev → Heap → Rs) → Rs) : XF :=
  match o.guard with
  | none => readC P sz all o i g
  | some (j, want) => match readC P sz all { o with guard := none } i g with
    | ⟨f⟩ => match dstC sz o.dst with
      | ⟨p⟩ => match (all[j]?).bind (·.dst) with
        | none => ⟨fun cl b e h rs k => p e undefA fun e => g cl b e h rs k⟩
        | some d => bif Nat.blt d sz && Nat.blt d 512 then
            match sl d with
            | ⟨q, _⟩ => match want with
              | true => ⟨fun cl b e h rs k => match q e with
                | .bool true => f cl b e h rs k
                | .junk => none
                | _ => p e undefA fun e => g cl b e h rs k⟩
              | false => ⟨fun cl b e h rs k => match q e with
                | .bool false => f cl b e h rs k
                | .junk => none
                | _ => p e undefA fun e => g cl b e h rs k⟩
          else failX

def drawsC (sz : Nat) (all : Array Oper) (ks : List Kd) (d : List (List Nat)) : List Nat → XF
  | [] => ⟨fun _ _ e h _ k => k e h⟩
  | i :: l => match nthO all.toList i with
    | none => failX
    | some o => match drawsC sz all ks d l with
      | ⟨g⟩ => match nthK ks i with
        | .read => readG P sz all o i g
        | .act => match guardC sz all o (bodyC P sz true o i) with
          | ⟨f⟩ => ⟨fun cl b e h rs k => f cl b e h fun e h => bif checks d i h rs then g cl b e h rs k else none⟩
        | _ => match guardC sz all o (bodyC P sz true o i) with
          | ⟨f⟩ => ⟨fun cl b e h rs k => f (fun _ _ _ => none) b e h fun e h => g cl b e h rs k⟩

def drawC (sz : Nat) (ops : Array Oper) : OF :=
  match drawOk P ops (canon P ops) && (canon P ops).all (fun i => Nat.blt i ops.size) with
  | true => match drawsC P sz ops (ops.toList.map (kindOf P)) (depsOf ops) (canon P ops) with
    | ⟨f⟩ => ⟨fun cl b e h k => f cl b e h [] k⟩
  | false => failF

/-! ### Code -/
structure CF where
  run : Cl → Nat → (Ev → Heap → Rs) → (Nat → Ev → Heap → Rs) → (Ev → Heap → Rs) → Ev → Heap → Rs

def loopC (f : (Ev → Heap → Rs) → Ev → Heap → Rs) : Nat → Ev → Heap → Rs
  | 0, _, _ => none
  | n + 1, e, h => f (fun e h => loopC f n e h) e h

def regC (ops : Array Oper) (r : OF) : CF :=
  match r with
  | ⟨f⟩ => match Nat.beq (reserve ops) 0 with
    | true => ⟨fun cl _ kn _ _ e h => f cl h.next e h kn⟩
    | false => ⟨fun cl _ kn _ _ e h => strictN h.next fun b => f cl b e ⟨b + reserve ops, h.tbl⟩ kn⟩

def comp (sz : Nat) : Code → CF
  | .skip => ⟨fun _ _ kn _ _ e h => kn e h⟩
  | .label _ => ⟨fun _ _ kn _ _ e h => kn e h⟩
  | .region _ ops true => regC ops (drawC P sz ops)
  | .region _ ops false => regC ops (opsC P sz ops ops.toList 0)
  | .seq a b => match comp sz a with
    | ⟨f⟩ => match comp sz b with
      | ⟨g⟩ => ⟨fun cl n kn kx kr e h => f cl n (fun e h => g cl n kn kx kr e h) kx kr e h⟩
  | .cond c x y => match vaC c with
    | none => ⟨fun _ _ _ _ _ _ _ => none⟩
    | some gc => match comp sz x with
      | ⟨f⟩ => match comp sz y with
        | ⟨g⟩ => ⟨fun cl n kn kx kr e h => match gc e with
          | .bool true => f cl n kn kx kr e h
          | .bool false => g cl n kn kx kr e h
          | _ => none⟩
  | .block id b => match comp sz b with
    | ⟨f⟩ => ⟨fun cl n kn kx kr e h => f cl n kn (fun i e h => bif Nat.beq i id then kn e h else kx i e h) kr e h⟩
  | .loop b => match comp sz b with
    | ⟨f⟩ => ⟨fun cl n kn kx kr e h => loopC (fun k e h => f cl n k kx kr e h) n e h⟩
  | .exit id => ⟨fun _ _ _ kx _ e h => kx id e h⟩
  | .scope b => comp sz b
  | .ret => ⟨fun _ _ _ _ kr e h => kr e h⟩
  | _ => ⟨fun _ _ _ _ _ _ _ => none⟩

/-! ### Functions -/
structure RF where
  run : Ev → Heap → (List AV → Rs) → Rs

def resultsC : List ResultVar → RF
  | [] => ⟨fun _ _ k => k []⟩
  | .tmp t :: r => bif Nat.blt t 512 then (match sl t with
    | ⟨g, _⟩ => match resultsC r with
      | ⟨f⟩ => ⟨fun e h k => f e h fun vs => k (g e :: vs)⟩) else ⟨fun _ _ _ => none⟩
  | .cell a t :: r => bif Nat.blt a 512 then (match sl a with
    | ⟨g, _⟩ => match resultsC r with
      | ⟨f⟩ => ⟨fun e h k => match loadA P h t (g e) with
        | some v => f e h fun vs => k (v :: vs)
        | none => none⟩) else ⟨fun _ _ _ => none⟩

def argsC : List AV → Nat → Ev → (Ev → Rs) → Rs
  | [], _, e, k => k e
  | v :: vs, i, e, k => (sl i).put e v fun e => argsC vs (i + 1) e k

structure FF where
  run : Cl → Nat → List AV → Heap → Rs

def funC (f : FuncId) : FF :=
  match P.funcs[f]? with
  | none => ⟨fun _ _ _ _ => none⟩
  | some fn => match fn.body with
    | none => ⟨fun _ _ args h => match externA fn args with
      | some v => some (.ret v, h)
      | none => none⟩
    | some c => match comp P fn.ntmps c with
      | ⟨r⟩ => match resultsC P fn.results.toList with
        | ⟨q⟩ => ⟨fun cl n args h => bif Nat.ble args.length fn.ntmps && Nat.ble args.length 512 then
            argsC args 0 ev0 fun e => r cl n (fun e h => q e h fun vs => some (.ret (oneOf vs), h)) (fun _ _ _ => none) (fun e h => q e h fun vs => some (.ret (oneOf vs), h)) e h
          else none⟩

def callC (X : Told) : Nat → Cl
  | 0, _, _, _ => none
  | n + 1, f, args, h => match X f with
    | some g => g args h
    | none => match funC P f with
      | ⟨r⟩ => r (callC X n) n args h

end

end Go.Proofs.YtahdafekballcaaGreat.AM
