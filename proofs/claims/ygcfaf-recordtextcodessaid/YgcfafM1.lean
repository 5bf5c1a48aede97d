/- A machine that runs the model's Code over memory of its own (block numbers of its own, capacities that append picks unknown): typed so that the kernel can run it. Its soundness: YgcfafM2 .. -/
import GoSem.Step
import Derived.Orders
import Derived.Deep.Quiet
namespace Go.Proofs.Ygcfaf.Mach
open Go
noncomputable section
set_option linter.unusedVariables false

/-! ### A trie -/
inductive Tr (α : Type) where
  | nil
  | node (v : Option α) (l r : Tr α)

variable {α R : Type}

def Tr.get (t : Tr α) : Nat → Option α :=
  Tr.rec (motive := fun _ => Nat → Option α) (fun _ => none)
    (fun v _ _ gl gr i => cond (Nat.beq i 0) v (cond (Nat.beq (Nat.mod i 2) 1) (gl (Nat.div i 2)) (gr (Nat.sub (Nat.div i 2) 1)))) t

def Tr.setK (v : α) (d : Nat) : Tr α → Nat → (Tr α → Option R) → Option R :=
  Nat.rec (motive := fun _ => Tr α → Nat → (Tr α → Option R) → Option R) (fun _ _ _ => none)
    (fun _ ih t i k => Tr.rec (motive := fun _ => Option R)
      (cond (Nat.beq i 0) (k (.node (some v) .nil .nil))
        (cond (Nat.beq (Nat.mod i 2) 1) (ih .nil (Nat.div i 2) fun l => k (.node none l .nil)) (ih .nil (Nat.sub (Nat.div i 2) 1) fun r => k (.node none .nil r))))
      (fun x l r _ _ => cond (Nat.beq i 0) (k (.node (some v) l r))
        (cond (Nat.beq (Nat.mod i 2) 1) (ih l (Nat.div i 2) fun l' => k (.node x l' r)) (ih r (Nat.sub (Nat.div i 2) 1) fun r' => k (.node x l r')))) t) d

/-! ### Forcing: each is the identity -/
def fNat (n : Nat) (k : Nat → R) : R := Nat.rec (motive := fun _ => R) (k 0) (fun p _ => k (Nat.succ p)) n
def fInt (n : Int) (k : Int → R) : R := Int.rec (motive := fun _ => R) (fun m => fNat m fun m => k (.ofNat m)) (fun m => fNat m fun m => k (.negSucc m)) n
def fList (l : List α) (k : List α → R) : R :=
  List.rec (motive := fun _ => (List α → R) → R) (fun k => k []) (fun a _ ih k => ih fun t => k (a :: t)) l k
def fBytes (s : ByteArray) (k : ByteArray → R) : R := match s with | ⟨⟨l⟩⟩ => fList l fun l => k ⟨⟨l⟩⟩
def fVal (v : Value) (k : Value → R) : R :=
  match v with
  | .int ki n => fInt n fun n => k (.int ki n)
  | .bool b => Bool.rec (motive := fun _ => R) (k (.bool false)) (k (.bool true)) b
  | .string s => fBytes s fun s => k (.string s)
  | .slice a n c => fNat n fun n => k (.slice a n c)
  | .pointer (some ⟨b, o, s⟩) => fNat b fun b => fNat o fun o => k (.pointer (some ⟨b, o, s⟩))
  | .agg ⟨cs⟩ => fList cs fun cs => k (.agg ⟨cs⟩)
  | .tuple ⟨cs⟩ => fList cs fun cs => k (.tuple ⟨cs⟩)
  | v => k v

/-! ### Types -/
inductive TyD where
  | other
  | int (k : IntKind)
  | str
  | ptr
  | struct (fs : List (Nat × Nat × Bool))
  | array (len e es : Nat) (ea : Bool)
  | slice (e es : Nat) (ez : List Value)
structure TyR where
  size : Nat
  bytes : Nat
  agg : Bool
  zero : List Value
  d : TyD
def tl (T : List (Nat × TyR)) (i : Nat) : Option TyR :=
  List.rec (motive := fun _ => Option TyR) none (fun p _ ih => cond (Nat.beq p.1 i) (some p.2) ih) T

/-! ### State -/
inductive Blk where
  | row (elem : Nat) (own : Bool) (cs : List Value)
  | iter (s : ByteArray) (pos : Nat)
  | dead
structure St where
  t : Tr Value
  h : Tr Blk
  nx : Nat
inductive Ex where
  | normal
  | exit (i : Nat)
  | ret

def gr1 : Value → Bool
  | .bool _ | .int .. | .string _ | .pointer none | .slice none _ _ => true
  | _ => false
def gr : Value → Bool
  | .agg ⟨cs⟩ => cs.all gr1
  | v => gr1 v

/-- '.nilIface' stands for a value of which nothing is known. -/
def ev (t : Tr Value) : Operand → Value
  | .tmp i => (t.get i).getD undef
  | .const v => cond (gr v) v .nilIface
  | .global _ => .nilIface
  | .func _ => .nilIface

def pureRun (P : Program) (s : Sem α) : Option α :=
  match s with
  | .pure a => some a
  | .program k => pureRun P (k P)
  | _ => none

def eqBytes (a b : List UInt8) : Bool :=
  List.rec (motive := fun _ => List UInt8 → Bool) (fun b => List.rec (motive := fun _ => Bool) true (fun _ _ _ => false) b)
    (fun x _ ih b => List.rec (motive := fun _ => Bool) false (fun y t _ => cond (Nat.beq x.toNat y.toNat) (ih t) false) b) a b

/-! ### Lists, by their recursor (the kernel runs these) -/
def nth (l : List α) : Nat → Option α :=
  List.rec (motive := fun _ => Nat → Option α) (fun _ => none) (fun a _ ih i => Nat.rec (motive := fun _ => Option α) (some a) (fun j _ => ih j) i) l
def takeR (l : List α) : Nat → List α :=
  List.rec (motive := fun _ => Nat → List α) (fun _ => []) (fun a _ ih i => Nat.rec (motive := fun _ => List α) [] (fun j _ => a :: ih j) i) l
def dropR (l : List α) : Nat → List α :=
  List.rec (motive := fun _ => Nat → List α) (fun _ => []) (fun a t ih i => Nat.rec (motive := fun _ => List α) (a :: t) (fun j _ => ih j) i) l
def lenR (l : List α) : Nat := List.rec (motive := fun _ => Nat) 0 (fun _ _ ih => Nat.succ ih) l
def appR (l m : List α) : List α := List.rec (motive := fun _ => List α) m (fun a _ ih => a :: ih) l
/-- cells 'vs' written over 'cs' from 'off' on -/
def over (cs : List Value) (off : Nat) (vs : List Value) : List Value :=
  List.rec (motive := fun _ => Nat → List Value) (fun _ => [])
    (fun c t ih off => Nat.rec (motive := fun _ => List Value) (appR vs (dropR (c :: t) (lenR vs))) (fun j _ => c :: ih j) off) cs off

def cellsL (v : Value) : List Value :=
  match v with
  | .agg ⟨cs⟩ => cs
  | v => [v]

/-- A value that lies in memory: a cell, or a row of cells. -/
def okC (v : Value) : Bool :=
  match v with
  | .tuple _ => false
  | .nilIface => false
  | _ => true

def fillL (place : Nat → Option (Nat × Nat)) (l : List (Nat × Value)) : List Value → Option (List Value) :=
  List.rec (motive := fun _ => List Value → Option (List Value)) (fun cells => some cells)
    (fun p _ ih cells => match place p.1 with
      | none => none
      | some q => cond (okC p.2 && (Nat.beq (lenR (cellsL p.2)) q.2 && Nat.ble (Nat.add q.1 q.2) (lenR cells))) (fList (over cells q.1 (cellsL p.2)) ih) none) l

def repL (zs : List Value) (n : Nat) : List Value := Nat.rec (motive := fun _ => List Value) [] (fun _ ih => appR zs ih) n

def natOf : Value → Option Nat
  | .int _ (.ofNat n) => some n
  | _ => none
def bndOf (t : Tr Value) (d : Nat) : Option Operand → Option Nat
  | none => some d
  | some x => natOf (ev t x)

/-! ### The operations that look at no memory -/
def pPick (c a b : Value) : Option Value := match c with | .bool true => some a | .bool false => some b | _ => none
def pNil (v : Value) : Option Value := match v with | .pointer (some a) => some (.pointer (some a)) | _ => none
def bEq (op : BinOp) (b : Bool) : Option Value := match op with | .eql => some (.bool b) | .neq => some (.bool (!b)) | _ => none
/-- An answer that is taken only if no address stands in it. -/
def pR (o : Option Value) : Option Value := match o with | some u => cond (gr u) (some u) none | none => none
def pPtr (r : Option TyR) (op : BinOp) (b : Bool) : Option Value := match r with | some ⟨_, _, _, _, .ptr⟩ => bEq op b | _ => none
def pBin (P : Program) (T : List (Nat × TyR)) (op : BinOp) (ty : TypeId) (x y : Operand) (vx vy : Value) : Option Value :=
  match vx, vy with
  | .int k a, .int k' b => pR (pureRun P (binOp op ty (.int k a) (.int k' b)))
  | .string a, .string b => bEq op (eqBytes a.data.toList b.data.toList)
  | .pointer a, .pointer none => pPtr (tl T ty) op a.isNone
  | vx, vy => cond (gr vx && gr vy) (pR (pureRun P (do eqGuard op ty x y vx vy; binOp op ty vx vy))) none
def pUn (P : Program) (op : UnOp) (v : Value) : Option Value := cond (gr v) (pR (pureRun P (Op.unary op v))) none
def pConv (s d : Option TyR) (v : Value) : Option Value :=
  match v, s, d with
  | .int _ n, some _, some ⟨_, _, _, _, .int k⟩ => some (.int k (k.wrap n))
  | _, _, _ => none
def pSub (s : ByteArray) (l h : Nat) : Option Value :=
  cond (Nat.ble l h && Nat.ble h (lenR s.data.toList)) (some (.string ⟨⟨dropR (takeR s.data.toList h) l⟩⟩)) none
def pSliceS (T : List (Nat × TyR)) (t : Tr Value) (ty : TypeId) (s : ByteArray) (lo hi mx : Option Operand) : Option Value :=
  match mx, bndOf t 0 lo, bndOf t (lenR s.data.toList) hi, tl T ty with
  | none, some l, some h, some ⟨_, _, _, _, .str⟩ => pSub s l h
  | _, _, _, _ => none
def pSliceA (T : List (Nat × TyR)) (t : Tr Value) (ty : TypeId) (b : Nat) (lo hi mx : Option Operand) : Option Value :=
  match lo, bndOf t 0 hi, bndOf t 0 mx, tl T ty with
  | none, some h, some m, some ⟨_, _, _, _, .array len _ _ _⟩ => cond (hi.isSome && (mx.isSome && (Nat.ble h m && Nat.ble m len))) (some (.slice (some ⟨b, 0, none⟩) h (Nat.succ m))) none
  | _, _, _, _ => none
def pSlice (T : List (Nat × TyR)) (t : Tr Value) (ty : TypeId) (v : Value) (lo hi mx : Option Operand) : Option Value :=
  match v with
  | .string s => pSliceS T t ty s lo hi mx
  | .pointer (some ⟨b, 0, none⟩) => pSliceA T t ty b lo hi mx
  | _ => none
def pFieldA (r : Option TyR) (v : Value) (f : Nat) : Option Value :=
  match v, r with
  | .pointer (some ⟨b, o, none⟩), some ⟨_, _, _, _, .struct fs⟩ => match nth fs f with | some q => some (.pointer (some ⟨b, Nat.add o q.1, none⟩)) | none => none
  | _, _ => none
def pIndexA (r : Option TyR) (v : Value) (i : Option Nat) : Option Value :=
  match r, v, i with
  | some ⟨_, _, _, _, .array len _ es _⟩, .pointer (some ⟨b, o, none⟩), some i => cond (Nat.blt i len) (some (.pointer (some ⟨b, Nat.add o (Nat.mul i es), none⟩))) none
  | some ⟨_, _, _, _, .slice _ es _⟩, .slice (some ⟨b, 0, none⟩) len _, some i => cond (Nat.blt i len) (some (.pointer (some ⟨b, Nat.mul i es, none⟩))) none
  | _, _, _ => none
def pByte (o : Option UInt8) : Option Value := match o with | some b => some (.int .u8 (.ofNat b.toNat)) | none => none
def pIndex (r : Option TyR) (v : Value) (i : Option Nat) : Option Value :=
  match v, i, r with
  | .string s, some i, some ⟨_, _, _, _, .str⟩ => pByte (nth s.data.toList i)
  | .agg ⟨cs⟩, some i, some ⟨_, _, _, _, .array len _ 1 false⟩ => cond (Nat.blt i len) (nth cs i) none
  | _, _, _ => none
def pExtract (v : Value) (i : Nat) : Option Value := match v with | .tuple ⟨vs⟩ => nth vs i | _ => none
def pAgg (o : Option (List Value)) : Option Value := match o with | some cs => some (.agg ⟨cs⟩) | none => none
def placeS (fs : List (Nat × Nat × Bool)) (i : Nat) : Option (Nat × Nat) := match nth fs i with | some q => some (q.1, q.2.1) | none => none
def evParts (t : Tr Value) (l : List (Nat × Operand)) : List (Nat × Value) := List.rec (motive := fun _ => List (Nat × Value)) [] (fun p _ ih => (p.1, ev t p.2) :: ih) l
def evs (t : Tr Value) (l : List Operand) : List Value := List.rec (motive := fun _ => List Value) [] (fun x _ ih => ev t x :: ih) l
def pBuild (t : Tr Value) (r : Option TyR) (parts : List (Nat × Operand)) : Option Value :=
  match r with
  | some ⟨_, _, _, z, .struct fs⟩ => pAgg (fillL (placeS fs) (evParts t parts) z)
  | some ⟨_, _, _, z, .array _ _ es _⟩ => pAgg (fillL (fun i => some (Nat.mul i es, es)) (evParts t parts) z)
  | _ => none
def pLen (v : Value) (r : Option TyR) : Option Value :=
  match v, r with
  | .slice _ n _, some ⟨_, _, _, _, .slice _ _ _⟩ => some (.int .i64 (.ofNat n))
  | .string s, some ⟨_, _, _, _, .str⟩ => some (.int .i64 (.ofNat (lenR s.data.toList)))
  | _, _ => none
def pMin (v u : Value) : Option Value :=
  match v, u with
  | .int k a, .int _ b => some (.int k (if b < a then b else a))
  | _, _ => none
def pBuiltin (T : List (Nat × TyR)) (t : Tr Value) (b : Builtin) (args : Array Operand) (tys : Array TypeId) : Option Value :=
  match b, args, tys with
  | .len, ⟨[x]⟩, ⟨[ty]⟩ => pLen (ev t x) (tl T ty)
  | .min, ⟨[x, y]⟩, _ => pMin (ev t x) (ev t y)
  | _, _, _ => none
def pCall (T : List (Nat × TyR)) (t : Tr Value) (c : Call) : Option Value :=
  match c with
  | ⟨.builtin b, args, tys⟩ => pBuiltin T t b args tys
  | _ => none

def aPure (P : Program) (T : List (Nat × TyR)) (t : Tr Value) (op : Op) : Option Value :=
  match op with
  | .move x => some (ev t x)
  | .assign x => some (ev t x)
  | .pick c a b => pPick (ev t c) (ev t a) (ev t b)
  | .nilCheck x => pNil (ev t x)
  | .binOp op ty x y _ => pBin P T op ty x y (ev t x) (ev t y)
  | .unOp op _ x => pUn P op (ev t x)
  | .convert s d x => pConv (tl T s) (tl T d) (ev t x)
  | .slice ty x lo hi mx => pSlice T t ty (ev t x) lo hi mx
  | .fieldAddr s x f => pFieldA (tl T s) (ev t x) f
  | .indexAddr ty x ix => pIndexA (tl T ty) (ev t x) (natOf (ev t ix))
  | .index ty x ix => pIndex (tl T ty) (ev t x) (natOf (ev t ix))
  | .extract x i => pExtract (ev t x) i
  | .build ty parts => pBuild t (tl T ty) parts.toList
  | .call c => pCall T t c
  | _ => none

def u8Of : Value → Option Nat
  | .int .u8 (.ofNat n) => some n
  | _ => none
def bytesOf (l : List Value) : Option (List UInt8) :=
  List.rec (motive := fun _ => Option (List UInt8)) (some []) (fun v _ ih => match u8Of v, ih with | some n, some l => some (UInt8.ofNat n :: l) | _, _ => none) l

/-! ### The operations that read memory -/
def loadC (r : TyR) (o : Nat) (cs : List Value) : Option Value :=
  cond r.agg (cond (Nat.ble (Nat.add o r.size) (lenR cs)) (some (.agg ⟨takeR (dropR cs o) r.size⟩)) none) (nth cs o)
def loadB (r : TyR) (o : Nat) (b : Option Blk) : Option Value := match b with | some (.row _ _ cs) => loadC r o cs | _ => none
def loadL (r : TyR) (h : Tr Blk) (v : Value) : Option Value :=
  match v with
  | .pointer (some ⟨b, o, none⟩) => loadB r o (h.get b)
  | _ => none
def loadT (r : Option TyR) (h : Tr Blk) (v : Value) : Option Value := match r with | some r => loadL r h v | none => none
def rStr (l : Option (List UInt8)) : Option Value := match l with | some l => some (.string ⟨⟨l⟩⟩) | none => none
def rBytes (b : Option Blk) (n : Nat) (e : Option TyR) : Option Value :=
  match b, e with
  | some (.row _ _ cs), some ⟨_, _, _, _, .int .u8⟩ => cond (Nat.ble n (lenR cs)) (rStr (bytesOf (takeR cs n))) none
  | _, _ => none
def rConv (T : List (Nat × TyR)) (h : Tr Blk) (s d : Option TyR) (v : Value) : Option Value :=
  match v, s, d with
  | .slice (some ⟨b, 0, none⟩) n _, some ⟨_, _, _, _, .slice e _ _⟩, some ⟨_, _, _, _, .str⟩ => rBytes (h.get b) n (tl T e)
  | _, _, _ => none
def aRead (T : List (Nat × TyR)) (t : Tr Value) (h : Tr Blk) (op : Op) : Option Value :=
  match op with
  | .load ty a => loadT (tl T ty) h (ev t a)
  | .convert s d x => rConv T h (tl T s) (tl T d) (ev t x)
  | _ => none

abbrev Out := Option (Value × Tr Blk × Nat)

/-! ### The operations that change memory -/
def newP (h : Tr Blk) (nx : Nat) (b : Blk) : Out := h.setK b 20 nx fun h => some (.pointer (some ⟨nx, 0, none⟩), h, Nat.succ nx)
def newS (h : Tr Blk) (nx : Nat) (e len : Nat) (cs : List Value) : Out := fList cs fun cs => h.setK (.row e true cs) 20 nx fun h => some (.slice (some ⟨nx, 0, none⟩) len 0, h, Nat.succ nx)
def mStoreB (fl : Nat) (h : Tr Blk) (nx : Nat) (b o size : Nat) (vs : List Value) (k : Option Blk) : Out :=
  match k with
  | some (.row e own cs) => cond (Nat.ble fl b && (Nat.beq (lenR vs) size && Nat.ble (Nat.add o size) (lenR cs)))
      (fList (over cs o vs) fun cs => h.setK (.row e own cs) 20 b fun h => some (undef, h, nx)) none
  | _ => none
def mStore (fl : Nat) (h : Tr Blk) (nx : Nat) (r : Option TyR) (a v : Value) : Out :=
  match a, r with
  | .pointer (some ⟨b, o, none⟩), some r => cond (okC v) (mStoreB fl h nx b o r.size (cellsL v) (h.get b)) none
  | _, _ => none
def mAlloc (h : Tr Blk) (nx e : Nat) (r : Option TyR) : Out := match r with | some r => newP h nx (.row e false r.zero) | none => none
def mBuilt (h : Tr Blk) (nx e len : Nat) (o : Option (List Value)) : Out := match o with | some cs => newS h nx e len cs | none => none
def mBuildS (h : Tr Blk) (nx : Nat) (t : Tr Value) (len : Nat) (parts : List (Nat × Operand)) (r : Option TyR) : Out :=
  match r with
  | some ⟨_, _, _, _, .slice e es ez⟩ => cond (Nat.ble len 4096 && Nat.blt 0 len) (mBuilt h nx e len (fillL (fun i => some (Nat.mul i es, es)) (evParts t parts) (repL ez len))) none
  | _ => none
def mMake (h : Tr Blk) (nx : Nat) (r : Option TyR) (l c : Option Nat) : Out :=
  match r, l, c with
  | some ⟨_, _, _, _, .slice e es ez⟩, some l, some c => cond (Nat.ble l c && Nat.ble c 4096) (newS h nx e l (repL ez c)) none
  | _, _, _ => none
def mRange (h : Tr Blk) (nx : Nat) (r : Option TyR) (v : Value) : Out :=
  match v, r with
  | .string s, some ⟨_, _, _, _, .str⟩ => newP h nx (.iter s 0)
  | _, _ => none
def mNextB (fl : Nat) (h : Tr Blk) (nx b : Nat) (k : Option Blk) : Out :=
  match k with
  | some (.iter s pos) => cond (Nat.blt pos (lenR s.data.toList))
      (fNat (Nat.add pos (Utf8.decode s pos).2) fun p => cond (Nat.ble fl b) (h.setK (.iter s p) 20 b fun h => some (.tuple ⟨[.bool true, .int .i64 (.ofNat pos), .int .i32 (.ofNat (Utf8.decode s pos).1)]⟩, h, nx)) none)
      (some (.tuple ⟨[.bool false]⟩, h, nx))
  | _ => none
def mNext (fl : Nat) (h : Tr Blk) (nx : Nat) (v : Value) : Out :=
  match v with
  | .pointer (some ⟨b, 0, none⟩) => mNextB fl h nx b (h.get b)
  | _ => none
def mAppB (fl : Nat) (h : Tr Blk) (nx e es b b2 len n : Nat) (new : List Value) (k : Option Blk) : Out :=
  match k with
  | some (.row e1 true cs1) => cond (Nat.beq e1 e && (!Nat.beq b b2 && (Nat.ble fl b && (Nat.ble (Nat.mul len es) (lenR cs1) && Nat.ble (Nat.add len n) 4096))))
      (h.setK .dead 20 b fun h => newS h nx e (Nat.add len n) (appR (takeR cs1 (Nat.mul len es)) new)) none
  | _ => none
def mAppS (fl : Nat) (h : Tr Blk) (nx e es b2 n : Nat) (new : List Value) (s : Value) : Out :=
  match s with
  | .slice none 0 0 => cond (Nat.ble n 4096) (newS h nx e n new) none
  | .slice (some ⟨b, 0, none⟩) len 0 => mAppB fl h nx e es b b2 len n new (h.get b)
  | _ => none
def mAppN (fl : Nat) (h : Tr Blk) (nx e es b2 n : Nat) (s : Value) (k : Option Blk) : Out :=
  match k with
  | some (.row _ _ cs2) => cond (Nat.ble (Nat.mul n es) (lenR cs2) && Nat.blt 0 n) (mAppS fl h nx e es b2 n (takeR cs2 (Nat.mul n es)) s) none
  | _ => none
def mAppend (fl : Nat) (h : Tr Blk) (nx : Nat) (s x : Value) (r : Option TyR) : Out :=
  match x, r with
  | .slice (some ⟨b2, 0, none⟩) n _, some ⟨_, _, _, _, .slice e es ez⟩ => mAppN fl h nx e es b2 n s (h.get b2)
  | _, _ => none
def mBuiltin (T : List (Nat × TyR)) (fl : Nat) (t : Tr Value) (h : Tr Blk) (nx : Nat) (b : Builtin) (args : Array Operand) (tys : Array TypeId) : Out :=
  match b, args, tys with
  | .append, ⟨[s, x]⟩, ⟨[ty, ty']⟩ => cond (Nat.beq ty ty') (mAppend fl h nx (ev t s) (ev t x) (tl T ty)) none
  | _, _, _ => none
def mCall (T : List (Nat × TyR)) (fl : Nat) (t : Tr Value) (h : Tr Blk) (nx : Nat) (c : Call) : Out :=
  match c with
  | ⟨.builtin b, args, tys⟩ => mBuiltin T fl t h nx b args tys
  | _ => none
def aMut (T : List (Nat × TyR)) (fl : Nat) (t : Tr Value) (h : Tr Blk) (nx : Nat) (op : Op) : Out :=
  match op with
  | .store ty a x => mStore fl h nx (tl T ty) (ev t a) (ev t x)
  | .alloc e => mAlloc h nx e (tl T e)
  | .box e x => cond (okC (ev t x)) (newP h nx (.row e false (cellsL (ev t x)))) none
  | .buildSlice ty len parts => mBuildS h nx t len parts.toList (tl T ty)
  | .makeSlice ty l c => mMake h nx (tl T ty) (natOf (ev t l)) (natOf (ev t c))
  | .range ty x => mRange h nx (tl T ty) (ev t x)
  | .next x true => mNext fl h nx (ev t x)
  | .call c => mCall T fl t h nx c
  | _ => none

/-! ### Regions -/
def boolOf (v : Value) : Option Bool := match v with | .bool b => some b | _ => none
def yl (ops : List Oper) (t : Tr Value) (j : Nat) : Option Bool :=
  match nth ops j with
  | some o => match o.dst with
    | some d => boolOf ((t.get d).getD undef)
    | none => none
  | none => none
def wantG (ops : List Oper) (t : Tr Value) (j : Nat) (want : Bool) : Bool := match yl ops t j with | some b => b == want | none => false
def wantedL (ops : List Oper) (t : Tr Value) (o : Oper) : Bool :=
  match o.guard with
  | none => true
  | some (j, want) => wantG ops t j want

def okU (v : Value) : Bool :=
  match v with
  | .nilIface => false
  | _ => true
def put (n : Nat) (t : Tr Value) (dst : Option Tmp) (v : Value) (k : Tr Value → Option R) : Option R :=
  match dst with
  | none => k t
  | some d => cond (Nat.blt d n && okU v) (fVal v fun v => t.setK v 12 d k) none

abbrev CallF := Nat → Nat → List Value → Tr Blk → Nat → Out

def cCall (call : CallF) (fl : Nat) (t : Tr Value) (h : Tr Blk) (nx : Nat) (c : Call) : Out :=
  match c with
  | ⟨.value (.func f), args, _⟩ => call fl f (evs t args.toList) h nx
  | _ => none
def aCall (call : CallF) (fl : Nat) (t : Tr Value) (h : Tr Blk) (nx : Nat) (op : Op) : Out :=
  match op with
  | .call c => cCall call fl t h nx c
  | _ => none

def putO (n : Nat) (t : Tr Value) (dst : Option Tmp) (k : St → Option R) (o : Out) (els : Option R) : Option R :=
  match o with
  | some (v, h, nx) => put n t dst v fun t => k ⟨t, h, nx⟩
  | none => els
def opVal (P : Program) (T : List (Nat × TyR)) (fl n : Nat) (call : CallF) (o : Oper) (t : Tr Value) (h : Tr Blk) (nx : Nat) (k : St → Option R) : Option R :=
  match aPure P T t o.op with
  | some v => put n t o.dst v fun t => k ⟨t, h, nx⟩
  | none => match aRead T t h o.op with
    | some v => put n t o.dst v fun t => k ⟨t, h, nx⟩
    | none => putO n t o.dst k (aMut T fl t h nx o.op) (putO n t o.dst k (aCall call fl t h nx o.op) none)
def opRun (P : Program) (T : List (Nat × TyR)) (fl n : Nat) (call : CallF) (ops : List Oper) (o : Oper) (s : St) (k : St → Option R) : Option R :=
  match s with
  | ⟨t, h, nx⟩ => cond (wantedL ops t o) (opVal P T fl n call o t h nx k) (put n t o.dst undef fun t => k ⟨t, h, nx⟩)

def opsRun (P : Program) (T : List (Nat × TyR)) (fl n : Nat) (call : CallF) (ops : List Oper) (l : List Oper) : St → Option (Ex × St) :=
  List.rec (motive := fun _ => St → Option (Ex × St)) (fun s => some (.normal, s)) (fun o _ ih s => opRun P T fl n call ops o s ih) l

def quiC (n : Nat) (t : Tr Value) (dst : Option Tmp) (k : Tr Value → Option R) (o : Out) : Option R :=
  match o with
  | some (v, _, _) => cond (gr v) (put n t dst v k) none
  | none => none
def quiVal (P : Program) (T : List (Nat × TyR)) (n : Nat) (call : CallF) (o : Oper) (t : Tr Value) (h : Tr Blk) (nx : Nat) (k : Tr Value → Option R) : Option R :=
  match aPure P T t o.op with
  | some v => put n t o.dst v k
  | none => match aRead T t h o.op with
    | some v => put n t o.dst v k
    | none => quiC n t o.dst k (aCall call nx t h nx o.op)
/-- A region whose operations only read: what a callee makes is forgotten. -/
def quiRun (P : Program) (T : List (Nat × TyR)) (n : Nat) (call : CallF) (h : Tr Blk) (nx : Nat) (ops : List Oper) (l : List Oper) : Tr Value → Option (Ex × St) :=
  List.rec (motive := fun _ => Tr Value → Option (Ex × St)) (fun t => some (.normal, ⟨t, h, nx⟩))
    (fun o _ ih t => cond (wantedL ops t o) (quiVal P T n call o t h nx ih) (put n t o.dst undef ih)) l

/-! ### Plans: every order of a region that writes -/
inductive Plan where
  | fin
  | take (i : Nat) (p : Plan)
  | alt (i : Nat) (p q : Plan)
  | no
inductive PlanK where
  | quiet
  | any (p : Plan)

def eqCell (a b : Value) : Bool :=
  match a, b with
  | .bool x, .bool y => x == y
  | .int k (.ofNat x), .int k' (.ofNat y) => decide (k = k') && Nat.beq x y
  | .int k (.negSucc x), .int k' (.negSucc y) => decide (k = k') && Nat.beq x y
  | .string x, .string y => eqBytes x.data.toList y.data.toList
  | .pointer none, .pointer none => true
  | .pointer (some ⟨b, o, none⟩), .pointer (some ⟨b', o', none⟩) => Nat.beq b b' && Nat.beq o o'
  | .slice none n c, .slice none n' c' => Nat.beq n n' && Nat.beq c c'
  | .slice (some ⟨b, o, none⟩) n c, .slice (some ⟨b', o', none⟩) n' c' => Nat.beq b b' && (Nat.beq o o' && (Nat.beq n n' && Nat.beq c c'))
  | _, _ => false
def eqL (e : α → α → Bool) : List α → List α → Bool
  | [], [] => true
  | a :: x, b :: y => cond (e a b) (eqL e x y) false
  | _, _ => false
def eqVal1 (a b : Value) : Bool :=
  match a, b with
  | .agg ⟨x⟩, .agg ⟨y⟩ => eqL eqCell x y
  | a, b => eqCell a b
def eqVal (a b : Value) : Bool :=
  match a, b with
  | .tuple ⟨x⟩, .tuple ⟨y⟩ => eqL eqVal1 x y
  | a, b => eqVal1 a b
def eqBlk (a b : Blk) : Bool :=
  match a, b with
  | .row e o x, .row e' o' y => Nat.beq e e' && (o == o' && eqL eqCell x y)
  | .iter s p, .iter s' p' => Nat.beq p p' && eqBytes s.data.toList s'.data.toList
  | .dead, .dead => true
  | _, _ => false
def eqO (e : α → α → Bool) : Option α → Option α → Bool
  | none, none => true
  | some a, some b => e a b
  | _, _ => false
def eqTr (e : α → α → Bool) : Tr α → Tr α → Bool
  | .nil, .nil => true
  | .node v l r, .node v' l' r' => cond (eqO e v v') (cond (eqTr e l l') (eqTr e r r') false) false
  | _, _ => false
def eqSt (a b : St) : Bool := Nat.beq a.nx b.nx && (eqTr eqVal a.t b.t && eqTr eqBlk a.h b.h)

def pureStep (P : Program) (T : List (Nat × TyR)) (n : Nat) (ops : List Oper) (o : Oper) (s : St) (k : St → Option R) : Option R :=
  match s with
  | ⟨t, h, nx⟩ =>
  cond (wantedL ops t o)
    (match aPure P T t o.op with
     | some v => put n t o.dst v fun t => k ⟨t, h, nx⟩
     | none => none)
    (put n t o.dst undef fun t => k ⟨t, h, nx⟩)

def same (o : Option St) (p : Option St) : Option St :=
  match o, p with
  | some a, some b => cond (eqSt a b) (some a) none
  | _, _ => none
def putI (n : Nat) (t : Tr Value) (nx : Nat) (dst : Option Tmp) (k : St → Option R) (o : Out) (els : Option R) : Option R :=
  match o with
  | some (v, h, _) => put n t dst v fun t => k ⟨t, h, nx⟩
  | none => els
/-- An operation of a plan: what it makes bears the number 'id'. -/
def opValP (P : Program) (T : List (Nat × TyR)) (fl n id : Nat) (call : CallF) (o : Oper) (t : Tr Value) (h : Tr Blk) (nx : Nat) (k : St → Option R) : Option R :=
  match aPure P T t o.op with
  | some v => put n t o.dst v fun t => k ⟨t, h, nx⟩
  | none => match aRead T t h o.op with
    | some v => put n t o.dst v fun t => k ⟨t, h, nx⟩
    | none => putI n t nx o.dst k (aMut T fl t h id o.op) (putO n t o.dst k (aCall call fl t h nx o.op) none)
def opRunP (P : Program) (T : List (Nat × TyR)) (fl n id : Nat) (call : CallF) (ops : List Oper) (o : Oper) (s : St) (k : St → Option R) : Option R :=
  match s with
  | ⟨t, h, nx⟩ => cond (wantedL ops t o) (opValP P T fl n id call o t h nx k) (put n t o.dst undef fun t => k ⟨t, h, nx⟩)

/-- A plan: 'alt i p q': the operation i and then p, or else what q says; all must agree. -/
def planRun (P : Program) (T : List (Nat × TyR)) (fl n base : Nat) (call : CallF) (ops : List Oper) : Plan → St → Option St
  | .fin, s => some s
  | .take i p, s => match nth ops i with
    | some o => pureStep P T n ops o s (planRun P T fl n base call ops p)
    | none => none
  | .alt i p q, s => match nth ops i, q with
    | some o, .no => opRunP P T fl n (Nat.add base i) call ops o s (planRun P T fl n base call ops p)
    | some o, q => same (opRunP P T fl n (Nat.add base i) call ops o s (planRun P T fl n base call ops p)) (planRun P T fl n base call ops q s)
    | none, _ => none
  | .no, _ => none

def lookPl (pl : List (Nat × Nat × PlanK)) (f i : Nat) : Option PlanK :=
  List.rec (motive := fun _ => Option PlanK) none (fun p _ ih => cond (Nat.beq p.1 f && Nat.beq p.2.1 i) (some p.2.2) ih) pl

/-! ### Code -/
def look (fs : List (Nat × Func)) (f : Nat) : Option Func :=
  List.rec (motive := fun _ => Option Func) none (fun p _ ih => cond (Nat.beq p.1 f) (some p.2) ih) fs

def tmps0 (args : List Value) (i : Nat) (t : Tr Value) (k : Tr Value → Option R) : Option R :=
  List.rec (motive := fun _ => Nat → Tr Value → (Tr Value → Option R) → Option R) (fun _ t k => k t) (fun v _ ih i t k => cond (okU v) (fVal v fun v => t.setK v 12 i fun t => ih (Nat.succ i) t k) none) args i t k

def resOf (T : List (Nat × TyR)) (t : Tr Value) (h : Tr Blk) (r : ResultVar) : Option Value :=
  match r with
  | .tmp i => some ((t.get i).getD undef)
  | .cell a ty => loadT (tl T ty) h ((t.get a).getD undef)
def resAll (T : List (Nat × TyR)) (t : Tr Value) (h : Tr Blk) (l : List ResultVar) : Option (List Value) :=
  List.rec (motive := fun _ => Option (List Value)) (some []) (fun r _ ih => match resOf T t h r, ih with | some v, some vs => cond (okC v) (some (v :: vs)) none | _, _ => none) l

/-- What is known of a call ahead: its result, nothing that was there written. -/
abbrev Orc := Nat → List Value → Tr Blk → Nat → Out

structure Env where
  P : Program
  T : List (Nat × TyR)
  fs : List (Nat × Func)
  pl : List (Nat × Nat × PlanK)
  orc : Orc

abbrev Self := Nat → Nat → Nat → Code → St → Option (Ex × St)

def finC (T : List (Nat × TyR)) (rs : List ResultVar) (o : Option (Ex × St)) : Out :=
  match o with
  | some (.exit _, _) => none
  | some (_, ⟨t, h, nx⟩) => match resAll T t h rs with
    | some [v] => some (v, h, nx)
    | some vs => some (.tuple ⟨vs⟩, h, nx)
    | none => none
  | none => none
def callFn (E : Env) (self : Self) (fl g : Nat) (args : List Value) (h : Tr Blk) (nx : Nat) (f : Option Func) : Out :=
  match f with
  | some fn => match fn.body with
    | some c => cond (Nat.ble (lenR args) fn.ntmps) (tmps0 args 0 .nil fun t => finC E.T fn.results.toList (self g fl fn.ntmps c ⟨t, h, nx⟩)) none
    | none => none
  | none => none
def callWith (E : Env) (self : Self) : CallF := fun fl g args h nx =>
  match E.orc g args h nx with
  | some r => some r
  | none => callFn E self fl g args h nx (look E.fs g)

def bSeq (self : Self) (f fl n : Nat) (b : Code) (o : Option (Ex × St)) : Option (Ex × St) := match o with | some (.normal, s) => self f fl n b s | r => r
def bCond (self : Self) (f fl n : Nat) (a b : Code) (s : St) (v : Value) : Option (Ex × St) := match v with | .bool true => self f fl n a s | .bool false => self f fl n b s | _ => none
def bBlock (id : Nat) (o : Option (Ex × St)) : Option (Ex × St) := match o with | some (.exit i, s) => cond (Nat.beq i id) (some (.normal, s)) (some (.exit i, s)) | r => r
def bPlan (o : Option St) : Option (Ex × St) := match o with | some s => some (.normal, s) | none => none
def bDraw (E : Env) (self : Self) (fl n : Nat) (ops : List Oper) (s : St) (k : Option PlanK) : Option (Ex × St) :=
  match k with
  | some .quiet => quiRun E.P E.T n (callWith E self) s.h s.nx ops ops s.t
  | some (.any p) => bPlan (planRun E.P E.T fl n s.nx (callWith E self) ops p ⟨s.t, s.h, Nat.add s.nx (lenR ops)⟩)
  | none => none
def body (E : Env) (self : Self) : Self := fun f fl n c s =>
  match c with
  | .skip => some (.normal, s)
  | .seq a b => bSeq self f fl n b (self f fl n a s)
  | .cond x a b => bCond self f fl n a b s (ev s.t x)
  | .block id c => bBlock id (self f fl n c s)
  | .loop c => bSeq self f fl n (.loop c) (self f fl n c s)
  | .exit i => some (.exit i, s)
  | .ret => some (.ret, s)
  | .region _ ops false => opsRun E.P E.T fl n (callWith E self) ops.toList ops.toList s
  | .region id ops true => bDraw E self fl n ops.toList s (lookPl E.pl f id)
  | _ => none

def run (E : Env) (fuel : Nat) : Self :=
  Nat.rec (motive := fun _ => Self) (fun _ _ _ _ _ => none) (fun _ ih => body E ih) fuel

def callRun (E : Env) (fuel : Nat) : CallF := callWith E (run E fuel)
end
end Go.Proofs.Ygcfaf.Mach
