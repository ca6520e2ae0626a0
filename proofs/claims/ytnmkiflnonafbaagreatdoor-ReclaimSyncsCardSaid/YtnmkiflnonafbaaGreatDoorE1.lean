/- An executor for the model's code over abstract heaps: definitions only. -/
import Derived.AtR
import Derived.Orders
set_option linter.unusedVariables false
namespace Go.X
noncomputable section
inductive Tr (α : Type) where
 | nil : Tr α
 | node (v : Option α) (l r : Tr α) : Tr α
def Tr.get {α : Type} (t : Tr α) : Nat → Option α :=
 @Tr.rec α (fun _ => Nat → Option α) (fun _ => none)
  (fun v _ _ gl gr n => @Bool.rec (fun _ => Option α) (@Bool.rec (fun _ => Option α) (gr (Nat.pred (Nat.div n 2))) (gl (Nat.div n 2)) (Nat.beq (Nat.mod n 2) 1)) v (Nat.beq n 0)) t
def Tr.sing {α : Type} (x : Option α) (f : Nat) : Nat → Tr α :=
 @Nat.rec (fun _ => Nat → Tr α) (fun _ => .node x .nil .nil)
  (fun _ g n => @Bool.rec (fun _ => Tr α) (@Bool.rec (fun _ => Tr α) (.node none .nil (g (Nat.pred (Nat.div n 2)))) (.node none (g (Nat.div n 2)) .nil) (Nat.beq (Nat.mod n 2) 1)) (.node x .nil .nil) (Nat.beq n 0)) f
def Tr.set {α : Type} (t : Tr α) (n : Nat) (x : Option α) : Tr α :=
 @Tr.rec α (fun _ => Nat → Tr α) (fun n => Tr.sing x n n)
  (fun v l r sl sr n => @Bool.rec (fun _ => Tr α) (@Bool.rec (fun _ => Tr α) (.node v l (sr (Nat.pred (Nat.div n 2)))) (.node v (sl (Nat.div n 2)) r) (Nat.beq (Nat.mod n 2) 1)) (.node x l r) (Nat.beq n 0)) t n
def Tr.put {α : Type} (t : Tr α) (n : Nat) : List α → Tr α
 | [] => t
 | x :: xs => (t.set n (some x)).put (n + 1) xs
def Tr.take {α : Type} (t : Tr α) (n : Nat) : Nat → Option (List α)
 | 0 => some []
 | k + 1 => match t.get n with
  | none => none
  | some x => match t.take (n + 1) k with
   | none => none
   | some xs => some (x :: xs)
inductive Cap where
 | fix (n : Nat)
 | opn (k : Nat)
inductive HF where
 | full
 | sh (s : Nat)
 | byt (i : Nat)
 | bs (i : Nat)
 | lw (j : Nat)
inductive RC where
 | md (k : IntKind) (m r : Nat)
 | rng (k : IntKind) (lo hi : Int)
 | slLen (lo hi : Nat)
 | strLen (lo hi : Nat)
 | lenOf (lo hi : Nat)
 | bits (k : IntKind) (j m r n : Nat)
 | nat (k : IntKind) (f : HF) (lo hi : Nat)
inductive AV where
 | undef
 | bool (b : Bool)
 | int (k : IntKind) (n : Int)
 | str (s : List Nat)
 | nilp | nils | nilm | nilf | nili
 | ptr (b off : Nat)
 | sl (b off len : Nat) (cap : Cap)
 | mpr (b : Nat)
 | fn (f : FuncId) (first cap : List AV)
 | yld (l : Nat)
 | ifc (t : TypeId) (v : AV)
 | agg (vs : List AV)
 | tup (vs : List AV)
 | capOf (b k : Nat)
 | sym (i : Nat)
 | res (i : Nat) (c : RC)
 | asl (b i lo hi : Nat)
 | eptr (b k : Nat)
 | pan (v : AV)
structure FldI where
 off : Nat
 ty : Nat
 size : Nat
inductive TK where
 | bool | int (k : IntKind) | str | ptr (e : Nat) | slice (e : Nat) | arr (n e : Nat) | struct (fs : List FldI) | iface | func | map (k e : Nat) | uptr | other
structure TyI where
 k : TK
 size : Nat
 bytes : Nat
 zero : List AV
 cmp : Bool
inductive Ext where
 | indexByte | overlaps (es : Nat) | noEscape | mapClone | noZero (e : Nat) | count
inductive Sz where
 | fix (n : Nat)
 | opn (lo : Nat) (hi : Option Nat) (es : Nat)
inductive XE where
 | normal
 | exit (id : Nat)
 | ret
 | pan (v : AV)
inductive DF where
 | coll (b : Nat)
 | cl (f : FuncId) (first cap : List AV)
structure Fr where
 tm : Tr AV
 n : Nat
 defs : List DF
structure ME where
 key : AV
 val : AV
 born : Nat
inductive AObj where
 | blk (elem : TypeId) (ro : Bool) (sz : Sz) (cells : Tr AV)
 | loop (st : LoopState) (pend : Option XE) (fn : FuncId) (fr : Fr) (ps : List Tmp) (dfr : Nat)
 | defr (full : Bool)
 | siter (s : List Nat) (pos : Nat)
 | mobj (es : List ME) (clock : Nat)
 | miter (m : Option Nat) (since : Nat) (seen : List Nat) (last : Nat)
 | arg (cells : Tr AV)
structure AHeap where
 next : Nat
 objs : Tr AObj
def AHeap.set (H : AHeap) (b : Nat) (o : Option AObj) : AHeap := { H with objs := H.objs.set b o }
def AHeap.new (H : AHeap) (o : AObj) : AHeap := { next := H.next + 1, objs := H.objs.set H.next (some o) }
inductive Ent where
 | pure (args : List AV) (v : AV)
 | loc (args : List AV) (pre : AHeap) (outs : List (AV × AHeap))
structure OraE where
 op : BinOp
 x : AV
 y : AV
 r : AV
 cells : Option (List AV)
structure XP where
 tys : Tr TyI
 fns : Tr Func
 ext : Tr Ext
 mrg : Tr Unit
 glob : Nat
 memo : Tr (List Ent)
 ora : List OraE
 sums : List Nat
 hand : List (Nat × (List AV → AHeap → Option AV))
def ofConst1 : Value → Option AV
 | .bool b => some (.bool b)
 | .int k n => some (.int k n)
 | .string s => some (.str (s.data.toList.map (·.toNat)))
 | .pointer none => some .nilp
 | .slice none 0 0 => some .nils
 | .map none => some .nilm
 | .nilFunc => some .nilf
 | .nilIface => some .nili
 | _ => none
def ofConsts : List Value → Option (List AV)
 | [] => some []
 | v :: vs => match ofConst1 v with
  | none => none
  | some x => match ofConsts vs with
   | none => none
   | some xs => some (x :: xs)
def ofConst : Value → Option AV
 | .agg cs => (ofConsts cs.toList).map .agg
 | .tuple ⟨[]⟩ => some .undef
 | v => ofConst1 v
def evalA (X : XP) (tm : Tr AV) : Operand → Option AV
 | .tmp t => match tm.get t with | some v => some v | none => some .undef
 | .const v => ofConst v
 | .global g => (@Bool.rec (fun _ => _) (none) (some (.ptr g 0)) (Nat.blt g X.glob))
 | .func f => some (.fn f [] [])
def evals (ev : Operand → Option AV) : List Operand → Option (List AV)
 | [] => some []
 | x :: xs => match ev x with
  | none => none
  | some v => match evals ev xs with
   | none => none
   | some vs => some (v :: vs)
def AV.cells : AV → List AV
 | .agg vs => vs
 | v => [v]
def AV.isCell : AV → Bool
 | .agg _ | .tup _ | .undef | .sym _ | .pan _ => false
 | _ => true
def AV.noSym : AV → Bool
 | .sym _ => false
 | _ => true
def TyI.isAgg (t : TyI) : Bool := match t.k with | .arr _ _ | .struct _ => true | _ => false
def getCells (H : AHeap) (b off n : Nat) : Option (List AV) :=
 match H.objs.get b with
 | some (.blk _ _ _ cells) => cells.take off n
 | _ => none
def loadV (X : XP) (H : AHeap) (t b off : Nat) : Option AV :=
 match X.tys.get t with
 | none => none
 | some ti => (@Bool.rec (fun _ => _) (match getCells H b off 1 with | some [v] => some v | _ => none) ((match getCells H b off ti.size with | some l => some (.agg l) | none => none)) (ti.isAgg))
def Sz.least : Sz → Nat
 | .fix n => n
 | .opn lo _ es => es * lo
def putCells (H : AHeap) (b off : Nat) (vs : List AV) : Option AHeap :=
 match H.objs.get b with
 | some (.blk el false sz cells) =>
  (@Bool.rec (fun _ => _) (none) (some (H.set b (some (.blk el false sz (cells.put off vs))))) (Nat.ble (off + vs.length) sz.least && vs.all AV.isCell))
 | _ => none
def storeV (X : XP) (H : AHeap) (t b off : Nat) (v : AV) : Option AHeap :=
 match X.tys.get t with
 | none => none
 | some ti => (@Bool.rec (fun _ => _) (none) (putCells H b off v.cells) (Nat.beq v.cells.length ti.size))
def kEq : IntKind → IntKind → Bool
 | .i8, .i8 | .i16, .i16 | .i32, .i32 | .i64, .i64 | .u8, .u8 | .u16, .u16 | .u32, .u32 | .u64, .u64 => true
 | _, _ => false
def iEq : Int → Int → Bool
 | .ofNat a, .ofNat b => Nat.beq a b
 | .negSucc a, .negSucc b => Nat.beq a b
 | _, _ => false
def iLt : Int → Int → Bool
 | .ofNat a, .ofNat b => Nat.blt a b
 | .negSucc a, .negSucc b => Nat.blt b a
 | .negSucc _, .ofNat _ => true
 | .ofNat _, .negSucc _ => false
def iLe (a b : Int) : Bool := !(iLt b a)
def kAll : IntKind → Nat
 | .i8 | .u8 => 256
 | .i16 | .u16 => 65536
 | .i32 | .u32 => 4294967296
 | .i64 | .u64 => 18446744073709551616
def kTop : IntKind → Nat
 | .i8 => 128 | .i16 => 32768 | .i32 => 2147483648 | .i64 => 9223372036854775808
 | .u8 => 256 | .u16 => 65536 | .u32 => 4294967296 | .u64 => 18446744073709551616
def natOf (k : IntKind) : Int → Nat
 | .ofNat m => Nat.mod m (kAll k)
 | .negSucc m => Nat.sub (Nat.pred (kAll k)) (Nat.mod m (kAll k))
def wrapN (k : IntKind) (m : Nat) : Int :=
 (@Bool.rec (fun _ => _) (.negSucc (Nat.sub (Nat.pred (kAll k)) m)) (.ofNat m) (Nat.blt m (kTop k)))
def fwrap (k : IntKind) : Int → Int
 | .ofNat m => (@Bool.rec (fun _ => _) (wrapN k (Nat.mod m (kAll k))) (.ofNat m) (Nat.blt m (kTop k)))
 | .negSucc m => wrapN k (Nat.sub (Nat.pred (kAll k)) (Nat.mod m (kAll k)))
def iAdd : Int → Int → Int
 | .ofNat a, .ofNat b => .ofNat (Nat.add a b)
 | a, b => a + b
def iSub : Int → Int → Int
 | .ofNat a, .ofNat b => (@Bool.rec (fun _ => _) (.negSucc (Nat.pred (Nat.sub b a))) (.ofNat (Nat.sub a b)) (Nat.ble b a))
 | a, b => a - b
def intBin (op : BinOp) (k : IntKind) (a b : Int) : Option AV :=
 match op with
 | .add => some (.int k (fwrap k (iAdd a b)))
 | .sub => some (.int k (fwrap k (iSub a b)))
 | .mul => some (.int k (fwrap k (a * b)))
 | .quo => (@Bool.rec (fun _ => _) (some (.int k (fwrap k (a.tdiv b)))) (none) (iEq b 0))
 | .rem => (@Bool.rec (fun _ => _) (some (.int k (a.tmod b))) (none) (iEq b 0))
 | .and => some (.int k (wrapN k (Nat.land (natOf k a) (natOf k b))))
 | .or => some (.int k (wrapN k (Nat.lor (natOf k a) (natOf k b))))
 | .xor => some (.int k (wrapN k (Nat.xor (natOf k a) (natOf k b))))
 | .andNot => some (.int k (wrapN k (Nat.land (natOf k a) (Nat.sub (Nat.pred (kAll k)) (natOf k b)))))
 | .eql => some (.bool (iEq a b))
 | .neq => some (.bool !(iEq a b))
 | .lss => some (.bool (iLt a b))
 | .leq => some (.bool (iLe a b))
 | .gtr => some (.bool (iLt b a))
 | .geq => some (.bool (iLe b a))
 | _ => none
def kBits : IntKind → Nat
 | .i8 | .u8 => 8
 | .i16 | .u16 => 16
 | .i32 | .u32 => 32
 | .i64 | .u64 => 64
def shlA (k : IntKind) (n : Nat) : Int → Option AV
 | .ofNat m => some (.int k (fwrap k (.ofNat (Nat.mul m (Nat.pow 2 n)))))
 | a => some (.int k (fwrap k (a * .ofNat (Nat.pow 2 n))))
def shrA (k : IntKind) (n : Nat) : Int → Option AV
 | .ofNat m => some (.int k (.ofNat (Nat.div m (Nat.pow 2 n))))
 | a => some (.int k (a.fdiv (.ofNat (Nat.pow 2 n))))
def leastN (a b : Nat) : Nat := (@Bool.rec (fun _ => _) (b) (a) (Nat.ble a b))
def shiftA (op : BinOp) (k : IntKind) (a : Int) : Int → Option AV
 | .negSucc _ => none
 | .ofNat b => match op with
  | .shl => shlA k (leastN b (kBits k)) a
  | .shr => shrA k (leastN b (kBits k)) a
  | _ => none
def strLess : List Nat → List Nat → Bool
 | _, [] => false
 | [], _ :: _ => true
 | a :: x, b :: y => Nat.blt a b || (Nat.beq a b && strLess x y)
def strEq : List Nat → List Nat → Bool
 | [], [] => true
 | a :: x, b :: y => Nat.beq a b && strEq x y
 | _, _ => false
def strOp (op : BinOp) (x y : List Nat) : Option AV :=
 match op with
 | .add => (@Bool.rec (fun _ => _) (none) (some (.str (x ++ y))) (Nat.blt (x.length + y.length) 4611686018427387904))
 | .eql => some (.bool (strEq x y))
 | .neq => some (.bool !(strEq x y))
 | .lss => some (.bool (strLess x y))
 | .leq => some (.bool (strLess x y || strEq x y))
 | .gtr => some (.bool !(strLess x y || strEq x y))
 | .geq => some (.bool !(strLess x y))
 | _ => none
def HF.same : HF → HF → Bool
 | .full, .full => true
 | .sh a, .sh b | .byt a, .byt b | .bs a, .bs b | .lw a, .lw b => Nat.beq a b
 | _, _ => false
def RC.same : RC → RC → Bool
 | .md k m r, .md k' m' r' => kEq k k' && Nat.beq m m' && Nat.beq r r'
 | .rng k m r, .rng k' m' r' => kEq k k' && iEq m m' && iEq r r'
 | .slLen m r, .slLen m' r' => Nat.beq m m' && Nat.beq r r'
 | .strLen m r, .strLen m' r' => Nat.beq m m' && Nat.beq r r'
 | .lenOf m r, .lenOf m' r' => Nat.beq m m' && Nat.beq r r'
 | .bits k j m r n, .bits k' j' m' r' n' => kEq k k' && Nat.beq j j' && Nat.beq m m' && Nat.beq r r' && Nat.beq n n'
 | .nat k f m r, .nat k' f' m' r' => kEq k k' && f.same f' && Nat.beq m m' && Nat.beq r r'
 | _, _ => false
def RC.isNum : RC → Bool
 | .rng .. | .nat .. => true
 | _ => false
def eq1 (t : TyI) (x y : AV) : Option Bool :=
 match t.k, x, y with
 | .bool, .bool a, .bool b => some (a == b)
 | .int _, .int k a, .int k' b => (@Bool.rec (fun _ => _) (none) (some (iEq a b)) (kEq k k'))
 | .str, .str a, .str b => some (strEq a b)
 | .ptr _, .nilp, .nilp => some true
 | .ptr _, .nilp, .ptr _ _ => some false
 | .ptr _, .ptr _ _, .nilp => some false
 | .map _ _, .nilm, .nilm => some true
 | .map _ _, .nilm, .mpr _ => some false
 | .map _ _, .mpr _, .nilm => some false
 | .slice _, .nils, .nils => some true
 | .slice _, .nils, .sl _ _ _ _ => some false
 | .slice _, .sl _ _ _ _, .nils => some false
 | .func, .nilf, .nilf => some true
 | .func, .nilf, .fn _ _ _ => some false
 | .func, .fn _ _ _, .nilf => some false
 | .func, .nilf, .yld _ => some false
 | .func, .yld _, .nilf => some false
 | _, _, _ => none
def TyI.isInt (t : TyI) : Bool := match t.k with
 | .int _ => true
 | _ => false
def eqSelf (t : TyI) (i : Nat) (c : RC) (j : Nat) (d : RC) : Option Bool := (@Bool.rec (fun _ => _) (none) (some true) (t.isInt && Nat.beq i j && c.same d && c.isNum))
def eqLeaf : Option TyI → Option AV → Option AV → Option Bool
 | some t, some (.res i c), some (.res j d) => eqSelf t i c j d
 | some t, some x, some y => (@Bool.rec (fun _ => _) (eq1 t x y) (none) (t.isAgg))
 | _, _, _ => none
def andThen (k : Option Bool) : Option Bool → Option Bool
 | some true => k
 | r => r
def eqFields (X : XP) (xs ys : List AV) : List FldI → Option Bool
 | [] => some true
 | f :: fs => andThen (eqFields X xs ys fs) (eqLeaf (X.tys.get f.ty) xs[f.off]? ys[f.off]?)
def eqA (X : XP) (t : TyI) (x y : AV) : Option Bool :=
 match t.k, x, y with
 | .struct fs, .agg xs, .agg ys => (@Bool.rec (fun _ => _) (none) (eqFields X xs ys fs) (t.cmp))
 | _, _, _ => eq1 t x y
def eqRes (op : BinOp) (r : Option Bool) : Option AV :=
 match op, r with
 | .eql, some b => some (.bool b)
 | .neq, some b => some (.bool !b)
 | _, _ => none
def binOther (X : XP) (op : BinOp) (x y : AV) : Option TyI → Option AV
 | some ti => eqRes op (eqA X ti x y)
 | none => none
def cmpRng (lo hi b : Int) : BinOp → Option AV
 | .lss => (@Bool.rec (fun _ => _) ((@Bool.rec (fun _ => _) (none) (some (.bool false)) (iLe b lo))) (some (.bool true)) (iLt hi b))
 | .leq => (@Bool.rec (fun _ => _) ((@Bool.rec (fun _ => _) (none) (some (.bool false)) (iLt b lo))) (some (.bool true)) (iLe hi b))
 | .gtr => (@Bool.rec (fun _ => _) ((@Bool.rec (fun _ => _) (none) (some (.bool false)) (iLe hi b))) (some (.bool true)) (iLt b lo))
 | .geq => (@Bool.rec (fun _ => _) ((@Bool.rec (fun _ => _) (none) (some (.bool false)) (iLt hi b))) (some (.bool true)) (iLe b lo))
 | .eql => (@Bool.rec (fun _ => _) ((@Bool.rec (fun _ => _) (none) (some (.bool true)) (iLe hi b && iLe b lo))) (some (.bool false)) (iLt hi b || iLt b lo))
 | .neq => (@Bool.rec (fun _ => _) ((@Bool.rec (fun _ => _) (none) (some (.bool false)) (iLe hi b && iLe b lo))) (some (.bool true)) (iLt hi b || iLt b lo))
 | _ => none
def remMd (k : IntKind) (m r : Nat) : Int → Option AV
 | .ofNat m' => (@Bool.rec (fun _ => _) (none) (some (.int k (.ofNat r))) (Nat.beq m m' && Nat.blt 0 m))
 | .negSucc _ => none
def isRem : BinOp → Bool
 | .rem => true
 | _ => false
def binRes (op : BinOp) (k' : IntKind) (b : Int) : RC → Option AV
 | .md k m r => (@Bool.rec (fun _ => _) (none) (remMd k m r b) (kEq k k' && isRem op))
 | .rng k lo hi => (@Bool.rec (fun _ => _) (none) (cmpRng lo hi b op) (kEq k k'))
 | .lenOf lo hi => (@Bool.rec (fun _ => _) (none) (cmpRng (.ofNat lo) (.ofNat hi) b op) (kEq .i64 k'))
 | _ => none
def bitsA (k k' : IntKind) (j m r n : Nat) : Int → Option AV
 | .ofNat 1 => (@Bool.rec (fun _ => _) (none) (some (.int k (.ofNat (Nat.mod (Nat.div r (Nat.pow 2 (n - j))) 2)))) (kEq k k' && Nat.ble j n && Nat.beq (Nat.mod m (Nat.pow 2 (n - j + 1))) 0))
 | _ => none
def bitsS (i : Nat) (k : IntKind) (j m r n : Nat) : Int → Option AV
 | .ofNat s => (@Bool.rec (fun _ => _) (none) (some (.res i (.bits k j m r (n + s)))) (Nat.ble s (kBits k)))
 | .negSucc _ => none
def binBits (i : Nat) (k k' : IntKind) (j m r n : Nat) (b : Int) : BinOp → Option AV
 | .shr => bitsS i k j m r n b
 | .and => bitsA k k' j m r n b
 | _ => none
def natLow (i : Nat) (k : IntKind) (lo hi j : Nat) : AV := (@Bool.rec (fun _ => _) (.res i (.nat k (.lw j) lo hi)) (.res i (.nat k .full lo hi)) (Nat.blt hi (Nat.pow 2 (8 * j))))
def natShr (i : Nat) (k : IntKind) (lo hi s : Nat) : HF → Option AV
 | .full => (@Bool.rec (fun _ => _) (none) (((@Bool.rec (fun _ => _) (some (.res i (.nat k (.sh s) lo hi))) (some (.int k (.ofNat 0))) (Nat.blt hi (Nat.pow 2 s))))) (Nat.ble s (kBits k)))
 | _ => none
def natShl (i : Nat) (k : IntKind) (lo hi s : Nat) : HF → Option AV
 | .byt j => (@Bool.rec (fun _ => _) (none) (some (.res i (.nat k (.bs j) lo hi))) (Nat.beq s (8 * j) && Nat.ble s (kBits k) && Nat.ble (Nat.pow 2 (8 * (j + 1))) (kTop k)))
 | _ => none
def natOr0 (i : Nat) (k : IntKind) (lo hi : Nat) : HF → Option AV
 | .full => (@Bool.rec (fun _ => _) (none) (some (.res i (.nat k .full lo hi))) (Nat.blt hi (kTop k)))
 | _ => none
def natCmp (k k' : IntKind) (lo hi : Nat) (b : Int) (op : BinOp) : HF → Option AV
 | .full => (@Bool.rec (fun _ => _) (none) (cmpRng (.ofNat lo) (.ofNat hi) b op) (kEq k k'))
 | _ => none
def natOp (i : Nat) (k k' : IntKind) (f : HF) (lo hi : Nat) (b : Int) : BinOp → Option AV
 | .shr => (match b with | .ofNat s => natShr i k lo hi s f | .negSucc _ => none)
 | .shl => (match b with | .ofNat s => natShl i k lo hi s f | .negSucc _ => none)
 | .or => (@Bool.rec (fun _ => _) (none) (natOr0 i k lo hi f) (kEq k k' && iEq b 0))
 | op => natCmp k k' lo hi b op f
def natOr2 (i : Nat) : RC → RC → Option AV
 | .nat k (.lw j) lo hi, .nat k' (.bs j') lo' hi' => (@Bool.rec (fun _ => _) (none) (some (natLow i k lo hi (j + 1))) (kEq k k' && Nat.beq j j' && Nat.beq lo lo' && Nat.beq hi hi' && Nat.ble (Nat.pow 2 (8 * (j + 1))) (kTop k)))
 | _, _ => none
def binRes1 (op : BinOp) (i : Nat) (k' : IntKind) (b : Int) : RC → Option AV
 | .bits k j m r n => binBits i k k' j m r n b op
 | .nat k f lo hi => natOp i k k' f lo hi b op
 | c => binRes op k' b c
def binInt (op : BinOp) (k k' : IntKind) (a b : Int) : Option AV :=
 match op with
 | .shl => shiftA .shl k a b
 | .shr => shiftA .shr k a b
 | op => (@Bool.rec (fun _ => _) (none) (intBin op k a b) (kEq k k'))
def swapOp : BinOp → Option BinOp
 | .lss => some .gtr
 | .leq => some .geq
 | .gtr => some .lss
 | .geq => some .leq
 | .eql => some .eql
 | .neq => some .neq
 | _ => none
def cmpL2 (lo hi a : Int) : Option BinOp → Option AV
 | some op => cmpRng lo hi a op
 | none => none
def binIL (op : BinOp) (k : IntKind) (a : Int) : RC → Option AV
 | .rng k' lo hi => (@Bool.rec (fun _ => _) (none) (cmpL2 lo hi a (swapOp op)) (kEq k k'))
 | .lenOf lo hi => (@Bool.rec (fun _ => _) (none) (cmpL2 (.ofNat lo) (.ofNat hi) a (swapOp op)) (kEq k .i64))
 | _ => none
def binIR (op : BinOp) (k : IntKind) (a : Int) (i : Nat) : RC → Option AV
 | .nat k' (.bs 0) lo hi => (match op with | .or => ((@Bool.rec (fun _ => _) (none) (some (natLow i k lo hi 1)) (kEq k k' && iEq a 0 && Nat.ble 256 (kTop k)))) | _ => none)
 | c => binIL op k a c
def binRR (op : BinOp) (i : Nat) (c : RC) (j : Nat) (d : RC) : Option AV :=
 match op with
 | .or => (@Bool.rec (fun _ => _) (none) (natOr2 i c d) (Nat.beq i j))
 | .eql => (@Bool.rec (fun _ => _) (none) (some (.bool true)) (Nat.beq i j && c.same d && c.isNum))
 | .neq => (@Bool.rec (fun _ => _) (none) (some (.bool false)) (Nat.beq i j && c.same d && c.isNum))
 | _ => none
def binA (X : XP) (op : BinOp) (t : Nat) (x y : AV) : Option AV :=
 match x, y with
 | .int k a, .int k' b => binInt op k k' a b
 | .res i c, .int k' b => binRes1 op i k' b c
 | .int k a, .res j d => binIR op k a j d
 | .res i c, .res j d => binRR op i c j d
 | .str a, .str b => strOp op a b
 | x, y => binOther X op x y (X.tys.get t)
def unA (op : UnOp) (x : AV) : Option AV :=
 match op, x with
 | .not, .bool b => some (.bool !b)
 | .neg, .int k n => some (.int k (fwrap k (iSub 0 n)))
 | _, _ => none
def bytesOfCells : List AV → Option (List Nat)
 | [] => some []
 | .int .u8 n :: l => match bytesOfCells l with | some r => some (n.toNat % 256 :: r) | none => none
 | _ => none
def natArg : AV → Option Nat
 | .int _ (.ofNat n) => some n
 | _ => none
def optArg (ev : Operand → Option AV) : Option Operand → Option (Option Nat)
 | none => some none
 | some x => match ev x with
  | some v => (natArg v).map some
  | none => none
def slStr (s : List Nat) (l : Nat) (h : Option Nat) (m : Option Nat) : Option AV :=
 (@Bool.rec (fun _ => _) (none) (some (.str ((s.take (h.getD s.length)).drop l))) (m.isNone && Nat.ble l (h.getD s.length) && Nat.ble (h.getD s.length) s.length))
def slFix (es b off c l h m : Nat) : Option AV :=
 (@Bool.rec (fun _ => _) (none) (some (.sl b ((@Bool.rec (fun _ => _) (off + l * es) (off) (Nat.beq m l))) (h - l) (.fix (m - l)))) (Nat.ble l h && Nat.ble h m && Nat.ble m c))
def slEnd : Option Nat → Nat → Bool
 | some h, n => Nat.beq h (n + 1)
 | none, _ => false
def slOpn0 (es b off k l h lo : Nat) : Option AV :=
 (@Bool.rec (fun _ => _) (none) (some (.sl b (off + l * es) (h - l) (.opn (k + l)))) (Nat.ble l h && Nat.ble (k + h) lo && (Nat.blt (k + l) lo || Nat.beq l 0)))
def slOpn (es b off k l h : Nat) : Option Nat → Option AObj → Option AV
 | some m, some (.blk _ _ (.opn lo _ _) _) => (@Bool.rec (fun _ => _) (none) (some (.sl b ((@Bool.rec (fun _ => _) (off + l * es) (off) (Nat.beq m l))) (h - l) (.fix (m - l)))) (Nat.ble l h && Nat.ble h m && Nat.ble (k + m) lo))
 | none, some (.blk _ _ (.opn lo hi _) _) => (@Bool.rec (fun _ => _) (slOpn0 es b off k l h lo) (some (.sl b off 0 (.fix 0))) (slEnd hi (k + l) && Nat.beq h l && Nat.ble (k + l) lo))
 | _, _ => none
def slSl (H : AHeap) (b off len : Nat) (l : Nat) (h m : Option Nat) : Option TyI → Cap → Option AV
 | some ei, .fix c => slFix ei.size b off c l (h.getD len) (m.getD c)
 | some ei, .opn k => slOpn ei.size b off k l (h.getD len) m (H.objs.get b)
 | none, _ => none
def slArr (b off n : Nat) (l : Nat) (h m : Option Nat) : Option TyI → Option AV
 | some ei => slFix ei.size b off n l (h.getD n) (m.getD n)
 | none => none
def sliceA2 (X : XP) (H : AHeap) (l : Nat) (h m : Option Nat) : TK → AV → Option AV
 | .str, .str s => slStr s l h m
 | .slice e, .nils => (@Bool.rec (fun _ => _) (none) (some .nils) (Nat.beq l 0 && Nat.beq (h.getD 0) 0 && Nat.beq (m.getD 0) 0 && (X.tys.get e).isSome))
 | .slice e, .sl b off len cap => slSl H b off len l h m (X.tys.get e) cap
 | .arr n e, .ptr b off => slArr b off n l h m (X.tys.get e)
 | _, _ => none
def sliceA1 (X : XP) (H : AHeap) (x : AV) : Option TyI → Option (Option Nat) → Option (Option Nat) → Option (Option Nat) → Option AV
 | some ti, some l, some h, some m => (@Bool.rec (fun _ => _) (none) (sliceA2 X H (l.getD 0) h m ti.k x) (m.isNone || h.isSome))
 | _, _, _, _ => none
def sliceA (X : XP) (ev : Operand → Option AV) (H : AHeap) (t : Nat) (x : AV) (lo hi mx : Option Operand) : Option AV :=
 sliceA1 X H x (X.tys.get t) (optArg ev lo) (optArg ev hi) (optArg ev mx)
def fillA (place : Nat → Option (Nat × Nat)) (cells : Tr AV) : List (Nat × AV) → Option (Tr AV)
 | [] => some cells
 | (i, v) :: rest => match place i with
  | none => none
  | some (off, size) => (@Bool.rec (fun _ => _) (none) (fillA place (cells.put off v.cells) rest) (Nat.beq v.cells.length size && v.noSym))
def evalParts (ev : Operand → Option AV) : List (Nat × Operand) → Option (List (Nat × AV))
 | [] => some []
 | (i, x) :: r => match ev x with
  | none => none
  | some v => match evalParts ev r with
   | none => none
   | some vs => some ((i, v) :: vs)
def zeros (z : List AV) : Nat → List AV
 | 0 => []
 | n + 1 => z ++ zeros z n
def minA : AV → List AV → Option AV
 | v, [] => some v
 | .int k x, .int k' y :: r => (@Bool.rec (fun _ => _) (none) (minA (.int k ((@Bool.rec (fun _ => _) (x) (y) (iLt y x)))) r) (kEq k k'))
 | _, _ => none
def maxA : AV → List AV → Option AV
 | v, [] => some v
 | .int k x, .int k' y :: r => (@Bool.rec (fun _ => _) (none) (maxA (.int k ((@Bool.rec (fun _ => _) (x) (y) (iLt x y)))) r) (kEq k k'))
 | _, _ => none
def qPick (ev : Operand → Option AV) (a b : Operand) : Option AV → Option AV
 | some (.bool true) => ev a
 | some (.bool false) => ev b
 | _ => none
def argCell (k : Nat) : Option AObj → Option AV
 | some (.arg cells) => cells.get k
 | _ => none
def loadArg (H : AHeap) (b k : Nat) : Option TyI → Option AV
 | some ti => (@Bool.rec (fun _ => _) (argCell k (H.objs.get b)) (none) (ti.isAgg))
 | none => none
def qLoad (X : XP) (H : AHeap) (t : TypeId) : Option AV → Option AV
 | some (.ptr b off) => loadV X H t b off
 | some (.eptr b k) => loadArg H b k (X.tys.get t)
 | _ => none
def qNilCheck : Option AV → Option AV
 | some (.ptr b off) => some (.ptr b off)
 | some (.eptr b k) => some (.eptr b k)
 | some (.fn f a b) => some (.fn f a b)
 | some (.yld l) => some (.yld l)
 | _ => none
def qBin (X : XP) (op : BinOp) (t : TypeId) : Option AV → Option AV → Option AV
 | some a, some b => binA X op t a b
 | _, _ => none
def qUn (op : UnOp) : Option AV → Option AV
 | some a => unA op a
 | none => none
def convInt (n : Int) : TK → Option AV
 | .int k => some (.int k (fwrap k n))
 | _ => none
def isByte : Option TyI → Bool
 | some { k := .int .u8, .. } => true
 | _ => false
def convBytes (H : AHeap) (b off len : Nat) : Option AV :=
 match getCells H b off len with
 | some cs => (bytesOfCells cs).map .str
 | none => none
def cellIn (off : Nat) : Option AObj → Bool
 | some (.blk _ _ sz _) => Nat.blt off sz.least
 | _ => false
def typedAt (u size off : Nat) : Option AObj → Bool
 | some (.blk el false sz _) => Nat.beq el u && Nat.beq off 0 && Nat.blt 0 size && Nat.ble size sz.least
 | _ => false
def convTo (b off : Nat) (o : Option AObj) : Option TyI → Option AV
 | some ei => (@Bool.rec (fun _ => _) (none) (some (.ptr b off)) (Nat.blt 0 ei.size && cellIn off o))
 | none => none
def convFrom (u b off : Nat) (o : Option AObj) : Option TyI → Option AV
 | some ei => (@Bool.rec (fun _ => _) (none) (some (.ptr b off)) (typedAt u ei.size off o))
 | none => none
def convOther (X : XP) (H : AHeap) : TK → TK → AV → Option AV
 | .ptr _, .uptr, .nilp => some .nilp
 | .uptr, .ptr _, .nilp => some .nilp
 | .ptr e, .uptr, .ptr b off => convTo b off (H.objs.get b) (X.tys.get e)
 | .uptr, .ptr u, .ptr b off => convFrom u b off (H.objs.get b) (X.tys.get u)
 | .str, .str, .str l => some (.str l)
 | .slice e, .str, .nils => (@Bool.rec (fun _ => _) (none) (some (.str [])) (isByte (X.tys.get e)))
 | .slice e, .str, .sl b off len _ => (@Bool.rec (fun _ => _) (none) (convBytes H b off len) (isByte (X.tys.get e)))
 | _, _, _ => none
def isU8 : IntKind → Bool
 | .u8 => true
 | _ => false
def convNat (i : Nat) (k : IntKind) (lo hi : Nat) : HF → Option AV
 | .full => (@Bool.rec (fun _ => _) ((@Bool.rec (fun _ => _) (none) (some (.res i (.nat k (.byt 0) lo hi))) (isU8 k))) (some (.res i (.nat k .full lo hi))) (Nat.blt hi (kTop k)))
 | .sh s => (@Bool.rec (fun _ => _) (none) (some (.res i (.nat k (.byt (Nat.div s 8)) lo hi))) (isU8 k && Nat.beq (Nat.mod s 8) 0))
 | .byt j => (@Bool.rec (fun _ => _) (none) (some (.res i (.nat k (.byt j) lo hi))) (Nat.ble 256 (kTop k)))
 | .bs j => (@Bool.rec (fun _ => _) (none) (some (.res i (.nat k (.bs j) lo hi))) (Nat.ble (Nat.pow 2 (8 * (j + 1))) (kTop k)))
 | .lw j => (@Bool.rec (fun _ => _) (none) (some (.res i (.nat k (.lw j) lo hi))) (Nat.ble (Nat.pow 2 (8 * j)) (kTop k)))
def convRng (i : Nat) (k k' : IntKind) : Int → Int → Option AV
 | .ofNat l, .ofNat h => (@Bool.rec (fun _ => _) (none) (((@Bool.rec (fun _ => _) (some (.res i (.nat k' .full l h))) (some (.res i (.rng k (.ofNat l) (.ofNat h)))) (kEq k k')))) (Nat.blt h (kTop k')))
 | _, _ => none
def convRes (i : Nat) : RC → TK → Option AV
 | .rng k lo hi, .int k' => convRng i k k' lo hi
 | .nat _ f lo hi, .int k' => convNat i k' lo hi f
 | _, _ => none
def qConvert2 (X : XP) (H : AHeap) (si di : TyI) : AV → Option AV
 | .int _ n => convInt n di.k
 | .res i c => convRes i c di.k
 | v => convOther X H si.k di.k v
def qConvert (X : XP) (H : AHeap) : Option TyI → Option TyI → Option AV → Option AV
 | some si, some di, some v => qConvert2 X H si di v
 | _, _, _ => none
def isConcrete : TK → Bool
 | .iface | .other => false
 | _ => true
def qIface (t : TypeId) : Option TyI → Option AV → Option AV
 | some ti, some v => (@Bool.rec (fun _ => _) (none) (some (.ifc t v)) (isConcrete ti.k))
 | _, _ => none
def qFunc (f : FuncId) : Option (List AV) → Option (List AV) → Option AV
 | some a, some b => some (.fn f a b)
 | _, _ => none
def fldAt (size : Nat) : Option FldI → Option (Nat × Nat)
 | some f => (@Bool.rec (fun _ => _) (none) (some (f.off, f.size)) (Nat.ble (f.off + f.size) size))
 | none => none
def fldPlace (size : Nat) (fs : List FldI) (i : Nat) : Option (Nat × Nat) := fldAt size fs[i]?
def arrPlace (es size : Nat) (i : Nat) : Option (Nat × Nat) :=
 (@Bool.rec (fun _ => _) (none) (some (i * es, es)) (Nat.ble ((i + 1) * es) size))
def asAggA (size : Nat) : Option (Tr AV) → Option AV
 | some c => (c.take 0 size).map .agg
 | none => none
def qBuildArr (ti : TyI) (ps : List (Nat × AV)) : Option TyI → Option AV
 | some ei => asAggA ti.size (fillA (arrPlace ei.size ti.size) (Tr.put .nil 0 ti.zero) ps)
 | none => none
def qBuild2 (X : XP) (ti : TyI) (ps : List (Nat × AV)) : TK → Option AV
 | .struct fs => asAggA ti.size (fillA (fldPlace ti.size fs) (Tr.put .nil 0 ti.zero) ps)
 | .arr _ e => qBuildArr ti ps (X.tys.get e)
 | _ => none
def qBuild (X : XP) : Option TyI → Option (List (Nat × AV)) → Option AV
 | some ti, some ps => qBuild2 X ti ps ti.k
 | _, _ => none
def qFieldAddr3 (b off : Nat) : Option FldI → Option AV
 | some fi => (@Bool.rec (fun _ => _) (none) (some (.ptr b (off + fi.off))) (Nat.blt 0 fi.size))
 | none => none
def qFieldAddr2 (b off f : Nat) : TK → Option AV
 | .struct fs => qFieldAddr3 b off fs[f]?
 | _ => none
def qFieldAddr (f : Nat) : Option TyI → Option AV → Option AV
 | some ti, some (.ptr b off) => qFieldAddr2 b off f ti.k
 | _, _ => none
def partA (vs : List AV) (off : Nat) : Option TyI → Option AV
 | some ti => (@Bool.rec (fun _ => _) (vs[off]?) (((@Bool.rec (fun _ => _) (none) (some (.agg ((vs.drop off).take ti.size))) (Nat.ble (off + ti.size) vs.length)))) (ti.isAgg))
 | none => none
def qField3 (X : XP) (vs : List AV) : Option FldI → Option AV
 | some fi => partA vs fi.off (X.tys.get fi.ty)
 | none => none
def qField2 (X : XP) (vs : List AV) (f : Nat) : TK → Option AV
 | .struct fs => qField3 X vs fs[f]?
 | _ => none
def qField (X : XP) (f : Nat) : Option TyI → Option AV → Option AV
 | some ti, some (.agg vs) => qField2 X vs f ti.k
 | _, _ => none
def ixAddr (b off n i : Nat) : Option TyI → Option AV
 | some ei => (@Bool.rec (fun _ => _) (none) (some (.ptr b (off + i * ei.size))) (Nat.blt i n))
 | none => none
def ixArg (b lo i : Nat) : Option TyI → Option AV
 | some ei => (@Bool.rec (fun _ => _) (none) (some (.eptr b i)) (Nat.blt i lo && Nat.beq ei.size 1))
 | none => none
def qIndexAddr2 (X : XP) (i : Nat) : TK → AV → Option AV
 | .arr n e, .ptr b off => ixAddr b off n i (X.tys.get e)
 | .slice e, .sl b off len _ => ixAddr b off len i (X.tys.get e)
 | .slice e, .asl b _ lo _ => ixArg b lo i (X.tys.get e)
 | _, _ => none
def qIndexAddr (X : XP) : Option TyI → Option AV → Option AV → Option AV
 | some ti, some v, some (.int _ (.ofNat i)) => qIndexAddr2 X i ti.k v
 | _, _, _ => none
def ixAgg (vs : List AV) (n i : Nat) : Option TyI → Option AV
 | some ei => (@Bool.rec (fun _ => _) (none) (partA vs (i * ei.size) (some ei)) (Nat.blt i n))
 | none => none
def qIndex2 (X : XP) (i : Nat) : TK → AV → Option AV
 | .str, .str s => (match s[i]? with | some b => some (.int .u8 (.ofNat b)) | none => none)
 | .arr n e, .agg vs => ixAgg vs n i (X.tys.get e)
 | _, _ => none
def qIndex (X : XP) : Option TyI → Option AV → Option AV → Option AV
 | some ti, some v, some (.int _ (.ofNat i)) => qIndex2 X i ti.k v
 | _, _, _ => none
def qExtract (i : Nat) : Option AV → Option AV
 | some (.tup vs) => vs[i]?
 | _ => none
def lenArr : Option TyI → Option AV
 | some { k := .arr n _, .. } => some (.int .i64 (.ofNat n))
 | _ => none
def lenMap : Option AObj → Option AV
 | some (.mobj es _) => some (.int .i64 (.ofNat es.length))
 | _ => none
def qLen2 (X : XP) (H : AHeap) : TK → AV → Option AV
 | .map _ _, .nilm => some (.int .i64 (.ofNat 0))
 | .map _ _, .mpr b => lenMap (H.objs.get b)
 | .str, .str s => some (.int .i64 (.ofNat s.length))
 | .str, .res i (.strLen lo hi) => some (.res i (.lenOf lo hi))
 | .arr n _, _ => some (.int .i64 (.ofNat n))
 | .ptr a, _ => lenArr (X.tys.get a)
 | .slice _, .nils => some (.int .i64 (.ofNat 0))
 | .slice _, .sl _ _ n _ => some (.int .i64 (.ofNat n))
 | .slice _, .res i (.slLen lo hi) => some (.res i (.lenOf lo hi))
 | .slice _, .asl _ i lo hi => some (.res i (.lenOf lo hi))
 | _, _ => none
def ty0 (X : XP) (ts : Array TypeId) (i : Nat) : Option TyI :=
 match ts[i]? with
 | some t => X.tys.get t
 | none => none
def qLen (X : XP) (H : AHeap) : Option TyI → Option (List AV) → Option AV
 | some ti, some [v] => qLen2 X H ti.k v
 | _, _ => none
def qCap2 : TK → AV → Option AV
 | .slice _, .nils => some (.int .i64 (.ofNat 0))
 | .slice _, .sl _ _ _ (.fix c) => some (.int .i64 (.ofNat c))
 | .slice _, .sl b _ _ (.opn k) => some (.capOf b k)
 | _, _ => none
def qCap : Option TyI → Option (List AV) → Option AV
 | some ti, some [v] => qCap2 ti.k v
 | _, _ => none
def qMin : Option (List AV) → Option AV
 | some (v :: r) => minA v r
 | _ => none
def qMax : Option (List AV) → Option AV
 | some (v :: r) => maxA v r
 | _ => none
def slData (b off k : Nat) : Option AObj → Option AV
 | some (.blk _ _ (.opn lo _ _) _) => (@Bool.rec (fun _ => _) (none) (some (.ptr b off)) (Nat.blt k lo))
 | _ => none
def qSlData (H : AHeap) : Option (List AV) → Option AV
 | some [.nils] => some .nilp
 | some [.sl b off _ (.fix c)] => (@Bool.rec (fun _ => _) (some (.ptr b off)) (none) (Nat.beq c 0))
 | some [.sl b off _ (.opn k)] => slData b off k (H.objs.get b)
 | _ => none
def qBuiltin (X : XP) (ev : Operand → Option AV) (H : AHeap) (args : Array Operand) (ts : Array TypeId) : Builtin → Option AV
 | .unsafeSliceData => qSlData H (evals ev args.toList)
 | .len => qLen X H (ty0 X ts 0) (evals ev args.toList)
 | .cap => qCap (ty0 X ts 0) (evals ev args.toList)
 | .min => qMin (evals ev args.toList)
 | .max => qMax (evals ev args.toList)
 | _ => none
def qCall (X : XP) (ev : Operand → Option AV) (H : AHeap) (args : Array Operand) (ts : Array TypeId) : Callee → Option AV
 | .builtin b => qBuiltin X ev H args ts b
 | _ => none
def qMakeFunc (ev : Operand → Option AV) (first captured : Array Operand) : Fn → Option AV
 | .func f => qFunc f (evals ev first.toList) (evals ev captured.toList)
 | _ => none
def qSlice (X : XP) (ev : Operand → Option AV) (H : AHeap) (t : TypeId) (lo hi mx : Option Operand) : Option AV → Option AV
 | some v => sliceA X ev H t v lo hi mx
 | none => none
def qAssert (t : TypeId) : Option TyI → Option AV → Option AV
 | some ti, some (.ifc t' v) => (@Bool.rec (fun _ => _) (none) (some (.tup [v, .bool true])) (isConcrete ti.k && Nat.beq t' t))
 | _, _ => none
def qAssertV (t : TypeId) : Option TyI → Option AV → Option AV
 | some ti, some (.ifc t' v) => (@Bool.rec (fun _ => _) (none) (some v) (isConcrete ti.k && Nat.beq t' t))
 | _, _ => none
def isIface : Option TyI → Bool
 | some { k := .iface, .. } => true
 | _ => false
def nilRes (op : BinOp) : Option AV → Option AV
 | some .nili => eqRes op (some true)
 | some (.ifc _ _) => eqRes op (some false)
 | _ => none
def qBinNil (X : XP) (op : BinOp) (t : TypeId) (x : Option AV) : Option AV → Operand → Option AV
 | some .nili, .const _ => (@Bool.rec (fun _ => _) (none) (nilRes op x) (isIface (X.tys.get t)))
 | _, _ => none
def ptrSame (op : BinOp) : AV → AV → Option TyI → Option AV
 | .ptr a b, .ptr c d, some _ => (@Bool.rec (fun _ => _) (none) (eqRes op (some true)) (Nat.beq a c && Nat.beq b d))
 | _, _, _ => none
def qBinPtr2 (X : XP) (op : BinOp) (x y : AV) : TK → Option AV
 | .ptr e => ptrSame op x y (X.tys.get e)
 | _ => none
def qBinPtr (X : XP) (op : BinOp) : Option TyI → Option AV → Option AV → Option AV
 | some ti, some x, some y => qBinPtr2 X op x y ti.k
 | _, _, _ => none
def opN : BinOp → Nat
 | .add => 1 | .sub => 2 | .mul => 3 | .quo => 4 | .rem => 5 | .and => 6 | .or => 7 | .xor => 8 | .andNot => 9 | .eql => 10 | .neq => 11 | .lss => 12 | .leq => 13 | .gtr => 14 | .geq => 15 | .shl => 16 | .shr => 17
def numSame : AV → AV → Bool
 | .int k a, .int l b => kEq k l && iEq a b
 | .res a (.rng k _ _), .res b (.rng l _ _) => kEq k l && Nat.beq a b
 | .res a (.rng k _ _), .res b (.nat l .full _ _) => kEq k l && Nat.beq a b
 | .res a (.nat k .full _ _), .res b (.rng l _ _) => kEq k l && Nat.beq a b
 | .res a (.nat k .full _ _), .res b (.nat l .full _ _) => kEq k l && Nat.beq a b
 | _, _ => false
def oraLook (op : BinOp) (x y : AV) : List OraE → Option AV
 | [] => none
 | o :: r => (@Bool.rec (fun _ => _) (oraLook op x y r) (some o.r) (o.cells.isNone && Nat.beq (opN o.op) (opN op) && Nat.blt 0 (opN op) && numSame o.x x && numSame o.y y))
def qOra (X : XP) (op : BinOp) : Option AV → Option AV → Option AV
 | some (.res a c), some y => oraLook op (.res a c) y X.ora
 | some (.int k n), some (.res b d) => oraLook op (.int k n) (.res b d) X.ora
 | _, _ => none
def sameA : TK → AV → AV → Option Bool
 | .int _, .int k a, .int k' b => (@Bool.rec (fun _ => _) (none) (some (iEq a b)) (kEq k k'))
 | .str, .str a, .str b => some (strEq a b)
 | _, _, _ => none
def isKey : TK → Bool
 | .int _ | .str => true
 | _ => false
def findK (k : Option (Option (Nat × AV))) (i : Nat) (v : AV) : Option Bool → Option (Option (Nat × AV))
 | some true => some (some (i, v))
 | some false => k
 | none => none
def findA (tk : TK) (k : AV) : Nat → List ME → Option (Option (Nat × AV))
 | _, [] => some none
 | i, m :: ms => findK (findA tk k (i + 1) ms) i m.val (sameA tk k m.key)
def mapEs (H : AHeap) : AV → Option (List ME)
 | .nilm => some []
 | .mpr b => (match H.objs.get b with | some (.mobj es _) => some es | _ => none)
 | _ => none
def zeroOf (ti : TyI) : Option AV := (@Bool.rec (fun _ => _) (match ti.zero with | [v] => some v | _ => none) (some (.agg ti.zero)) (ti.isAgg))
def lookV (ok : Bool) (v : AV) (is : Bool) : AV := (@Bool.rec (fun _ => _) (v) (.tup [v, .bool is]) (ok))
def lookZ (ok : Bool) : Option AV → Option AV
 | some z => some (lookV ok z false)
 | none => none
def lookR (ok : Bool) (ti : TyI) : Option (Option (Nat × AV)) → Option AV
 | some (some p) => some (lookV ok p.2 true)
 | some none => lookZ ok (zeroOf ti)
 | none => none
def lookM2 (ok : Bool) (tk : TK) (k : AV) (ti : TyI) : Option (List ME) → Option AV
 | some es => (@Bool.rec (fun _ => _) (none) (lookR ok ti (findA tk k 0 es)) (isKey tk))
 | none => none
def lookM3 (H : AHeap) (ok : Bool) (x k : AV) : Option TyI → Option TyI → Option AV
 | some ki, some ei => lookM2 ok ki.k k ei (mapEs H x)
 | _, _ => none
def lookM4 (X : XP) (H : AHeap) (ok : Bool) (x k : AV) : TK → Option AV
 | .map kt e => lookM3 H ok x k (X.tys.get kt) (X.tys.get e)
 | _ => none
def qLookup (X : XP) (H : AHeap) (ok : Bool) : Option TyI → Option AV → Option AV → Option AV
 | some ti, some x, some k => lookM4 X H ok x k ti.k
 | _, _, _ => none
def lastN : List Nat → Option Nat
 | [] => none
 | x :: l => (match lastN l with | some y => some y | none => some x)
def findBorn (n : Nat) : List ME → Option AV
 | [] => none
 | m :: ms => (@Bool.rec (fun _ => _) (findBorn n ms) (some (.tup [m.key, m.val])) (Nat.beq m.born n))
def entryAt (es : List ME) : Option Nat → Option AV
 | some n => findBorn n es
 | none => none
def qEntry3 (seen : List Nat) (last : Nat) : Option AObj → Option AV
 | some (.mobj es c) => (@Bool.rec (fun _ => _) (none) (entryAt es (lastN seen)) (Nat.beq c last))
 | _ => none
def qEntry2 (H : AHeap) : Option AObj → Option AV
 | some (.miter (some b) _ seen last) => qEntry3 seen last (H.objs.get b)
 | _ => none
def qEntry (H : AHeap) : Option AV → Option AV
 | some (.ptr r 0) => qEntry2 H (H.objs.get r)
 | _ => none
def orElse (z : Option AV) : Option AV → Option AV
 | some v => some v
 | none => z
def qop (X : XP) (ev : Operand → Option AV) (H : AHeap) : Op → Option AV
 | .move x => ev x
 | .assign x => ev x
 | .pick c a b => qPick ev a b (ev c)
 | .load t a => qLoad X H t (ev a)
 | .nilCheck x => qNilCheck (ev x)
 | .binOp op t x y _ => orElse (orElse (orElse (qOra X op (ev x) (ev y)) (qBinNil X op t (ev x) (ev y) y)) (qBinPtr X op (X.tys.get t) (ev x) (ev y))) (qBin X op t (ev x) (ev y))
 | .unOp op _ x => qUn op (ev x)
 | .convert s d x => qConvert X H (X.tys.get s) (X.tys.get d) (ev x)
 | .makeInterface t x => qIface t (X.tys.get t) (ev x)
 | .makeFunc fn first captured => qMakeFunc ev first captured fn
 | .build t parts => qBuild X (X.tys.get t) (evalParts ev parts.toList)
 | .fieldAddr s x f => qFieldAddr f (X.tys.get s) (ev x)
 | .field s x f => qField X f (X.tys.get s) (ev x)
 | .indexAddr t x ix => qIndexAddr X (X.tys.get t) (ev x) (ev ix)
 | .index t x ix => qIndex X (X.tys.get t) (ev x) (ev ix)
 | .slice t x lo hi mx => qSlice X ev H t lo hi mx (ev x)
 | .extract x i => qExtract i (ev x)
 | .typeAssert x _ t true => qAssert t (X.tys.get t) (ev x)
 | .typeAssert x _ t false => qAssertV t (X.tys.get t) (ev x)
 | .entry it => qEntry H (ev it)
 | .lookup t x k ok => qLookup X H ok (X.tys.get t) (ev x) (ev k)
 | .call c => qCall X ev H c.args c.argTypes c.callee
 | _ => none
def alAlloc (nid t : Nat) : Option TyI → Option (AV × AObj)
 | some ti => some (.ptr nid 0, .blk t false (.fix ti.size) (Tr.put .nil 0 ti.zero))
 | none => none
def alBox (nid t : Nat) : Option AV → Option (AV × AObj)
 | some v => (@Bool.rec (fun _ => _) (none) (some (.ptr nid 0, .blk t false (.fix v.cells.length) (Tr.put .nil 0 v.cells))) (v.cells.all AV.isCell))
 | none => none
def alBuild3 (nid e len es : Nat) : Option (Tr AV) → Option (AV × AObj)
 | some c => some (.sl nid 0 len (.fix len), .blk e false (.fix (len * es)) c)
 | none => none
def alBuild2 (nid e len : Nat) (ps : List (Nat × AV)) : Option TyI → Option (AV × AObj)
 | some ei => (@Bool.rec (fun _ => _) (none) (alBuild3 nid e len ei.size (fillA (arrPlace ei.size (len * ei.size)) (Tr.put .nil 0 (zeros ei.zero len)) ps)) (Nat.ble (len * ei.size) 16777216 && ps.all (fun p => p.2.cells.all AV.isCell)))
 | none => none
def alBuild (X : XP) (nid len : Nat) : Option TyI → Option (List (Nat × AV)) → Option (AV × AObj)
 | some { k := .slice e, .. }, some ps => alBuild2 nid e len ps (X.tys.get e)
 | _, _ => none
def alMake2 (nid e l c : Nat) : Option TyI → Option (AV × AObj)
 | some ei => (@Bool.rec (fun _ => _) (none) (some (.sl nid 0 l (.fix c), .blk e false (.fix (c * ei.size)) (Tr.put .nil 0 (zeros ei.zero c)))) (Nat.ble l c && Nat.blt c 1048576 && Nat.ble ei.bytes 1048576 && Nat.blt 0 ei.size))
 | none => none
def alMake (X : XP) (nid : Nat) : Option TyI → Option AV → Option AV → Option (AV × AObj)
 | some { k := .slice e, .. }, some (.int _ (.ofNat l)), some (.int _ (.ofNat c)) => alMake2 nid e l c (X.tys.get e)
 | _, _, _ => none
def allocOp (X : XP) (ev : Operand → Option AV) (nid : Nat) : Op → Option (AV × AObj)
 | .alloc t => alAlloc nid t (X.tys.get t)
 | .box t x => alBox nid t (ev x)
 | .buildSlice t len parts => alBuild X nid len (X.tys.get t) (evalParts ev parts.toList)
 | .makeSlice t l c => alMake X nid (X.tys.get t) (ev l) (ev c)
 | .makeMap _ none => some (.mpr nid, .mobj [] 0)
 | _ => none
def srcCells (H : AHeap) (es n : Nat) : AV → Option (List AV)
 | .nils => (@Bool.rec (fun _ => _) (none) (some []) (Nat.beq n 0))
 | .sl b off _ _ => getCells H b off (n * es)
 | .str s => (@Bool.rec (fun _ => _) (none) (some ((s.take n).map fun b => .int .u8 (.ofNat b))) (Nat.beq es 1))
 | _ => none
def lenA : AV → Option Nat
 | .nils => some 0
 | .sl _ _ n _ => some n
 | .str s => some s.length
 | _ => none
def apGrown (H : AHeap) (nid : Nat) (e : TypeId) (es need : Nat) (all : List AV) : Option (AV × AHeap) :=
 (@Bool.rec (fun _ => _) (none) (some (.sl nid 0 need (.opn 0), H.set nid (some (.blk e false (.opn need none es) (Tr.put .nil 0 all))))) (all.all AV.isCell))
def apFits (b off need : Nat) (cap : Cap) : Option AHeap → Option (AV × AHeap)
 | some H' => some (.sl b off need cap, H')
 | none => none
def apGrow (H : AHeap) (nid : Nat) (e : TypeId) (es need : Nat) (xs : List AV) : Option (List AV) → Option (AV × AHeap)
 | some old => apGrown H nid e es need (old ++ xs)
 | none => none
def apFix (H : AHeap) (nid : Nat) (e : TypeId) (es n : Nat) (xs : List AV) (b off len c : Nat) : Option (AV × AHeap) :=
 (@Bool.rec (fun _ => _) (apGrow H nid e es (len + n) xs (getCells H b off (len * es))) (apFits b off (len + n) (.fix c) (putCells H b (off + len * es) xs)) (Nat.ble (len + n) c))
def apMaybe (H : AHeap) (nid : Nat) (e el : TypeId) (es es' need : Nat) (xs : List AV) (b off k : Nat) : Option Nat → Option (List AV) → Option (AV × AHeap)
 | some h, some old => (@Bool.rec (fun _ => _) (none) (apGrown H nid e es need (old ++ xs)) (Nat.ble h (k + need) && Nat.blt 0 need))
 | none, some old => (@Bool.rec (fun _ => _) (none) (apGrown (H.set b none) nid e es need (old ++ xs)) (Nat.beq off 0 && Nat.beq k 0 && Nat.beq es' es && Nat.beq el e))
 | _, none => none
def apOpn (H : AHeap) (nid : Nat) (e : TypeId) (es n : Nat) (xs : List AV) (b off len k : Nat) : Option AObj → Option (AV × AHeap)
 | some (.blk el false (.opn lo hi es') _) =>
  (@Bool.rec (fun _ => _) (apMaybe H nid e el es es' (len + n) xs b off k hi (getCells H b off (len * es))) (apFits b off (len + n) (.opn k) (putCells H b (off + len * es) xs)) (Nat.ble (k + (len + n)) lo))
 | _ => none
def appendA (H : AHeap) (nid : Nat) (e : TypeId) (es n : Nat) (xs : List AV) : AV → Option (AV × AHeap)
 | .nils => (@Bool.rec (fun _ => _) (apGrown H nid e es n xs) (some (.nils, H)) (Nat.beq n 0))
 | .sl b off len (.fix c) => apFix H nid e es n xs b off len c
 | .sl b off len (.opn k) => apOpn H nid e es n xs b off len k (H.objs.get b)
 | _ => none
def wStore (X : XP) (H : AHeap) (t : TypeId) : Option AV → Option AV → Option (AV × AHeap)
 | some (.ptr b off), some v => (match storeV X H t b off v with | some H' => some (.undef, H') | none => none)
 | _, _ => none
def wNext3 (H : AHeap) (r pos : Nat) (s : List Nat) : Option Nat → Option (AV × AHeap)
 | some c => (@Bool.rec (fun _ => _) (none) (some (.tup [.bool true, .int .i64 (.ofNat pos), .int .i32 (.ofNat c)], H.set r (some (.siter s (pos + 1))))) (Nat.blt c 128))
 | none => some (.tup [.bool false], H)
def wNext2 (H : AHeap) (r : Nat) : Option AObj → Option (AV × AHeap)
 | some (.siter s pos) => wNext3 H r pos s s[pos]?
 | _ => none
def wNext (H : AHeap) : Option AV → Option (AV × AHeap)
 | some (.ptr r 0) => wNext2 H r (H.objs.get r)
 | _ => none
def miterOf : Option AObj → Nat → Option AObj
 | some (.mobj _ c), b => some (.miter (some b) c [] c)
 | _, _ => none
def wRange2 (H : AHeap) (nid : Nat) : Option AObj → Option (AV × AHeap)
 | some o => some (.ptr nid 0, H.set nid (some o))
 | none => none
def wRange1 (H : AHeap) (nid : Nat) : TK → AV → Option (AV × AHeap)
 | .str, .str s => wRange2 H nid (some (.siter s 0))
 | .map _ _, .nilm => wRange2 H nid (some (.miter none 0 [] 0))
 | .map _ _, .mpr b => wRange2 H nid (miterOf (H.objs.get b) b)
 | _, _ => none
def wRange (H : AHeap) (nid : Nat) : Option TyI → Option AV → Option (AV × AHeap)
 | some ti, some v => wRange1 H nid ti.k v
 | _, _ => none
def setME (v : AV) : Nat → List ME → List ME
 | _, [] => []
 | 0, m :: ms => ⟨m.key, v, m.born⟩ :: ms
 | i + 1, m :: ms => m :: setME v i ms
def delME : Nat → List ME → List ME
 | _, [] => []
 | 0, _ :: ms => ms
 | i + 1, m :: ms => m :: delME i ms
def wUpd4 (H : AHeap) (b : Nat) (es : List ME) (c : Nat) (k v : AV) : Option (Option (Nat × AV)) → Option (AV × AHeap)
 | some (some p) => some (.undef, H.set b (some (.mobj (setME v p.1 es) c)))
 | some none => some (.undef, H.set b (some (.mobj (es ++ [⟨k, v, c⟩]) (c + 1))))
 | none => none
def wUpd3 (H : AHeap) (b : Nat) (k v : AV) (tk : TK) : Option AObj → Option (AV × AHeap)
 | some (.mobj es c) => (@Bool.rec (fun _ => _) (none) (wUpd4 H b es c k v (findA tk k 0 es)) (isKey tk))
 | _ => none
def wUpd2 (X : XP) (H : AHeap) (b : Nat) (k v : AV) : TK → Option (AV × AHeap)
 | .map kt _ => (match X.tys.get kt with | some ki => wUpd3 H b k v ki.k (H.objs.get b) | none => none)
 | _ => none
def wUpd (X : XP) (H : AHeap) : Option TyI → Option AV → Option AV → Option AV → Option (AV × AHeap)
 | some ti, some (.mpr b), some k, some v => wUpd2 X H b k v ti.k
 | _, _, _, _ => none
def wDel4 (H : AHeap) (b : Nat) (es : List ME) (c : Nat) : Option (Option (Nat × AV)) → Option (AV × AHeap)
 | some (some p) => some (.undef, H.set b (some (.mobj (delME p.1 es) c)))
 | some none => some (.undef, H)
 | none => none
def wDel3 (H : AHeap) (b : Nat) (k : AV) (tk : TK) : Option AObj → Option (AV × AHeap)
 | some (.mobj es c) => (@Bool.rec (fun _ => _) (none) (wDel4 H b es c (findA tk k 0 es)) (isKey tk))
 | _ => none
def wDel2 (X : XP) (H : AHeap) (b : Nat) (k : AV) : TK → Option (AV × AHeap)
 | .map kt _ => (match X.tys.get kt with | some ki => wDel3 H b k ki.k (H.objs.get b) | none => none)
 | _ => none
def wDelete (X : XP) (H : AHeap) : Option TyI → Option (List AV) → Option (AV × AHeap)
 | some ti, some [.mpr b, k] => wDel2 X H b k ti.k
 | _, _ => none
def wStr4 (H : AHeap) (b : Nat) : Option (List Nat) → Option (AV × AHeap)
 | some l => some (.str l, H.set b none)
 | none => none
def wStr3 (H : AHeap) (b : Nat) : Option (List AV) → Option (AV × AHeap)
 | some cs => wStr4 H b (bytesOfCells cs)
 | none => none
def oneCell : Option TyI → Bool
 | some ti => Nat.beq ti.size 1
 | none => false
def wStr2 (X : XP) (H : AHeap) (b off n : Nat) : Option AObj → Option (AV × AHeap)
 | some (.blk el false _ _) => (@Bool.rec (fun _ => _) (none) (wStr3 H b (getCells H b off n)) (isByte (X.tys.get el) && oneCell (X.tys.get el)))
 | _ => none
def ptrByte (X : XP) : Option TyI → Bool
 | some { k := .ptr e, .. } => isByte (X.tys.get e)
 | _ => false
def wString (X : XP) (H : AHeap) (pt : Option TyI) : Option (List AV) → Option (AV × AHeap)
 | some [.nilp, .int _ (.ofNat n)] => (@Bool.rec (fun _ => _) (none) (some (.str [], H)) (ptrByte X pt && Nat.beq n 0))
 | some [.ptr b off, .int _ (.ofNat n)] => (@Bool.rec (fun _ => _) (none) (((@Bool.rec (fun _ => _) (wStr2 X H b off n (H.objs.get b)) (some (.str [], H)) (Nat.beq n 0)))) (ptrByte X pt && Nat.blt n 4611686018427387904))
 | _ => none
def apOk (ei : TyI) (n : Nat) : Option Nat → Bool
 | some l => Nat.blt (l + n) 1048576 && Nat.ble ei.bytes 1048576 && Nat.blt 0 ei.size
 | none => false
def wAppendZeros (H : AHeap) (nid : Nat) (e : TypeId) (ei : TyI) (s : AV) : AV → Option (AV × AHeap)
 | .int _ (.ofNat n) => (@Bool.rec (fun _ => _) (none) (appendA H nid e ei.size n (zeros ei.zero n) s) (apOk ei n (lenA s)))
 | _ => none
def wAppendCells (H : AHeap) (nid : Nat) (e : TypeId) (ei : TyI) (s : AV) (n : Nat) : Option (List AV) → Option (AV × AHeap)
 | some xs => (@Bool.rec (fun _ => _) (none) (appendA H nid e ei.size n xs s) (apOk ei n (lenA s)))
 | none => none
def wAppendSrc (H : AHeap) (nid : Nat) (e : TypeId) (ei : TyI) (s x : AV) : Option Nat → Option (AV × AHeap)
 | some n => wAppendCells H nid e ei s n (srcCells H ei.size n x)
 | none => none
def wAppend3 (H : AHeap) (nid : Nat) (e : TypeId) (s x : AV) : Option TyI → TK → Option (AV × AHeap)
 | some ei, .int _ => wAppendZeros H nid e ei s x
 | some ei, .slice _ => wAppendSrc H nid e ei s x (lenA x)
 | some ei, .str => wAppendSrc H nid e ei s x (lenA x)
 | _, _ => none
def wAppend2 (X : XP) (H : AHeap) (nid : Nat) (s x : AV) (ui : TyI) : TK → Option (AV × AHeap)
 | .slice e => wAppend3 H nid e s x (X.tys.get e) ui.k
 | _ => none
def wAppend (X : XP) (H : AHeap) (nid : Nat) : Option TyI → Option TyI → Option (List AV) → Option (AV × AHeap)
 | some ti, some ui, some [s, x] => wAppend2 X H nid s x ui ti.k
 | _, _, _ => none
def wCopy3 (H : AHeap) (b off n : Nat) : Option (List AV) → Option (AV × AHeap)
 | some xs => (match putCells H b off xs with | some H' => some (.int .i64 (.ofNat n), H') | none => none)
 | none => none
def wCopy2 (H : AHeap) (s : AV) : Option TyI → Option Nat → AV → Option (AV × AHeap)
 | some _, some _, .nils => some (.int .i64 (.ofNat 0), H)
 | some ei, some ns, .sl b off nd _ => wCopy3 H b off (Nat.min ns nd) (srcCells H ei.size (Nat.min ns nd) s)
 | _, _, _ => none
def wCopy1 (X : XP) (H : AHeap) (d s : AV) : TK → Option (AV × AHeap)
 | .slice e => wCopy2 H s (X.tys.get e) (lenA s) d
 | _ => none
def wCopy (X : XP) (H : AHeap) : Option TyI → Option (List AV) → Option (AV × AHeap)
 | some ti, some [d, s] => wCopy1 X H d s ti.k
 | _, _ => none
def wClear2 (H : AHeap) : Option TyI → AV → Option (AV × AHeap)
 | some _, .nils => some (.undef, H)
 | some ei, .sl b off n _ => (match putCells H b off (zeros ei.zero n) with | some H' => some (.undef, H') | none => none)
 | _, _ => none
def wClear1 (X : XP) (H : AHeap) (d : AV) : TK → Option (AV × AHeap)
 | .slice e => wClear2 H (X.tys.get e) d
 | _ => none
def wClear (X : XP) (H : AHeap) : Option TyI → Option (List AV) → Option (AV × AHeap)
 | some ti, some [d] => wClear1 X H d ti.k
 | _, _ => none
def wBuiltin (X : XP) (ev : Operand → Option AV) (nid : Nat) (H : AHeap) (args : Array Operand) (ts : Array TypeId) : Builtin → Option (AV × AHeap)
 | .append => wAppend X H nid (ty0 X ts 0) (ty0 X ts 1) (evals ev args.toList)
 | .copy => wCopy X H (ty0 X ts 0) (evals ev args.toList)
 | .clear => wClear X H (ty0 X ts 0) (evals ev args.toList)
 | .delete => wDelete X H (ty0 X ts 0) (evals ev args.toList)
 | .unsafeString => wString X H (ty0 X ts 0) (evals ev args.toList)
 | _ => none
def wCall (X : XP) (ev : Operand → Option AV) (nid : Nat) (H : AHeap) (args : Array Operand) (ts : Array TypeId) : Callee → Option (AV × AHeap)
 | .builtin b => wBuiltin X ev nid H args ts b
 | _ => none
def wMark (H : AHeap) (nid b off n : Nat) : Cap → Option AObj → Option (AV × AHeap)
 | .fix c, some (.blk el false (.fix m) cells) => (@Bool.rec (fun _ => _) (none) (some (.sl nid 0 n (.opn 0), (H.set b none).set nid (some (.blk el false (.opn n (some (n + 1)) 1) cells)))) (Nat.beq off 0 && Nat.beq c n && Nat.beq m n))
 | _, _ => none
def byteSl (X : XP) : Option TyI → Bool
 | some { k := .slice e, .. } => isByte (X.tys.get e)
 | _ => false
def wQuiet (H : AHeap) : Option AV → Option (AV × AHeap)
 | some v => some (v, H)
 | none => none
def wConv (X : XP) (H : AHeap) (nid s d : Nat) : Option AV → Option (AV × AHeap)
 | some (.sl b off n c) => (@Bool.rec (fun _ => _) (none) (wMark H nid b off n c (H.objs.get b)) (Nat.beq s d && byteSl X (X.tys.get s)))
 | v => wQuiet H (qConvert X H (X.tys.get s) (X.tys.get d) v)
def wop (X : XP) (ev : Operand → Option AV) (nid : Nat) (H : AHeap) : Op → Option (AV × AHeap)
 | .convert s d x => wConv X H nid s d (ev x)
 | .store t a x => wStore X H t (ev a) (ev x)
 | .next it true => wNext H (ev it)
 | .range t x => wRange H nid (X.tys.get t) (ev x)
 | .mapUpdate t m k x => wUpd X H (X.tys.get t) (ev m) (ev k) (ev x)
 | .insert t m k x => wUpd X H (X.tys.get t) (ev m) (ev k) (ev x)
 | .call c => wCall X ev nid H c.args c.argTypes c.callee
 | _ => none
def bClass : Builtin → Nat
 | .append | .copy | .clear | .delete | .unsafeString => 2
 | _ => 0
def cClass : Callee → Nat
 | .builtin b => bClass b
 | _ => 3
def opClass : Op → Nat
 | .alloc _ | .box .. | .buildSlice .. | .makeSlice .. | .makeMap .. => 1
 | .store .. | .next .. | .range .. | .mapUpdate .. | .insert .. => 2
 | .convert s d _ => (@Bool.rec (fun _ => _) (0) (2) (Nat.beq s d))
 | .call c => cClass c.callee
 | .defer _ | .panic _ => 4
 | _ => 0
def fkCmp (H : AHeap) (n b k : Nat) : Option AObj → Option (List (AV × AHeap))
 | some (.blk el false (.opn lo hi es) cells) => (@Bool.rec (fun _ => _) (none) (some [(.bool true, H.set b (some (.blk el false (.opn lo (some (n + k)) es) cells))), (.bool false, H.set b (some (.blk el false (.opn (Nat.max lo (n + k)) hi es) cells)))]) (Nat.ble k lo))
 | _ => none
def fkBin (H : AHeap) : Option AV → Option AV → Option (List (AV × AHeap))
 | some (.int .i64 (.ofNat n)), some (.capOf b k) => fkCmp H n b k (H.objs.get b)
 | _, _ => none
def fkSlice3 (H : AHeap) (b off k l es : Nat) : Option AObj → Option (List (AV × AHeap))
 | some (.blk el false (.opn low hi es') cells) =>
  (@Bool.rec (fun _ => _) (none) (some [(.sl b (off + l * es) 0 (.opn (k + l)), H.set b (some (.blk el false (.opn (low + 1) hi es') cells))), (.sl b off 0 (.fix 0), H.set b (some (.blk el false (.opn low (some (low + 1)) es') cells)))]) (Nat.beq (k + l) low))
 | _ => none
def fkSlice2 (H : AHeap) (b off len k l : Nat) : Option TyI → Option (List (AV × AHeap))
 | some ei => (@Bool.rec (fun _ => _) (none) (fkSlice3 H b off k l ei.size (H.objs.get b)) (Nat.beq l len))
 | none => none
def fkSlice1 (X : XP) (H : AHeap) (l : Option Nat) : TK → AV → Option (List (AV × AHeap))
 | .slice e, .sl b off len (.opn k) => fkSlice2 H b off len k (l.getD 0) (X.tys.get e)
 | _, _ => none
def fkSlice (X : XP) (H : AHeap) : Option TyI → Option AV → Option (Option Nat) → Option (List (AV × AHeap))
 | some ti, some v, some l => fkSlice1 X H l ti.k v
 | _, _, _ => none
def byteCells : List Nat → List AV
 | [] => []
 | b :: l => .int .u8 (.ofNat b) :: byteCells l
def alConv3 (nid e : Nat) (l : List Nat) : Option (AV × AObj) :=
 some (.sl nid 0 l.length (.opn 0), .blk e false (.opn l.length none 1) (Tr.put .nil 0 (byteCells l)))
def alConv2 (X : XP) (nid : Nat) : TK → TK → AV → Option (AV × AObj)
 | .str, .slice e, .str l => (@Bool.rec (fun _ => _) (none) (alConv3 nid e l) (isByte (X.tys.get e)))
 | _, _, _ => none
def alConv (X : XP) (nid : Nat) : Option TyI → Option TyI → Option AV → Option (AV × AObj)
 | some si, some di, some v => alConv2 X nid si.k di.k v
 | _, _, _ => none
def convOp (X : XP) (ev : Operand → Option AV) (nid : Nat) : Op → Option (AV × AObj)
 | .convert s d x => alConv X nid (X.tys.get s) (X.tys.get d) (ev x)
 | _ => none
def forkOp (X : XP) (ev : Operand → Option AV) (H : AHeap) : Op → Option (List (AV × AHeap))
 | .binOp .gtr _ x y _ => fkBin H (ev x) (ev y)
 | .slice t x lo none none => fkSlice X H (X.tys.get t) (ev x) (optArg ev lo)
 | _ => none
def memN (t : Nat) : List Nat → Bool
 | [] => false
 | u :: us => (@Bool.rec (fun _ => _) (memN t us) (true) (Nat.beq t u))
def leftME (seen : List Nat) : List ME → List ME
 | [] => []
 | m :: ms => (@Bool.rec (fun _ => _) (m :: leftME seen ms) (leftME seen ms) (memN m.born seen))
def oldME (since : Nat) (is : Bool) : List ME → List ME
 | [] => []
 | m :: ms => (@Bool.rec (fun _ => _) (oldME since is ms) (m :: oldME since is ms) (Nat.blt m.born since == is))
def allNewME (last : Nat) : List ME → Bool
 | [] => true
 | m :: ms => Nat.ble last m.born && allNewME last ms
def nextV (m : ME) : AV := .tup [.bool true, m.key, m.val]
def nextEs (H : AHeap) (r b since c : Nat) (seen : List Nat) : List ME → List (AV × AHeap)
 | [] => []
 | m :: ms => (nextV m, H.set r (some (.miter (some b) since (seen ++ [m.born]) c))) :: nextEs H r b since c seen ms
def nextOver (H : AHeap) (l : List (AV × AHeap)) : List ME → List (AV × AHeap)
 | [] => (.tup [.bool false], H) :: l
 | _ :: _ => l
def nextM (H : AHeap) (r b since : Nat) (seen : List Nat) (last : Nat) : Option AObj → Option (List (AV × AHeap))
 | some (.mobj es c) => (@Bool.rec (fun _ => _) (some (nextOver H (nextEs H r b since c seen (oldME since true (leftME seen es) ++ oldME since false (leftME seen es))) (oldME since true (leftME seen es)))) (none) (!seen.isEmpty && !es.isEmpty && allNewME last es))
 | _ => none
def nextA (H : AHeap) (r : Nat) : Option AObj → Option (List (AV × AHeap))
 | some (.miter none _ _ _) => some [(.tup [.bool false], H)]
 | some (.miter (some b) since seen last) => nextM H r b since seen last (H.objs.get b)
 | _ => none
def forkNext (H : AHeap) : Option AV → Option (List (AV × AHeap))
 | some (.ptr r 0) => nextA H r (H.objs.get r)
 | _ => none
def forkW (ev : Operand → Option AV) (H : AHeap) : Op → Option (List (AV × AHeap))
 | .next it false => forkNext H (ev it)
 | _ => none
def Cap.same : Cap → Cap → Bool
 | .fix a, .fix b => Nat.beq a b
 | .opn a, .opn b => Nat.beq a b
 | _, _ => false
mutual
def AV.same : AV → AV → Bool
 | .undef, .undef => true
 | .bool a, .bool b => a == b
 | .int k a, .int l b => kEq k l && iEq a b
 | .str a, .str b => strEq a b
 | .nilp, .nilp | .nils, .nils | .nilm, .nilm | .nilf, .nilf | .nili, .nili => true
 | .ptr a b, .ptr c d => Nat.beq a c && Nat.beq b d
 | .mpr a, .mpr b => Nat.beq a b
 | .sl a b c d, .sl e f g h => Nat.beq a e && Nat.beq b f && Nat.beq c g && d.same h
 | .fn f a b, .fn g c d => Nat.beq f g && AV.sames a c && AV.sames b d
 | .yld a, .yld b => Nat.beq a b
 | .ifc t a, .ifc u b => Nat.beq t u && a.same b
 | .agg a, .agg b => AV.sames a b
 | .tup a, .tup b => AV.sames a b
 | .capOf a b, .capOf c d => Nat.beq a c && Nat.beq b d
 | .sym a, .sym b => Nat.beq a b
 | .res a c, .res b d => Nat.beq a b && c.same d
 | .asl a b c d, .asl e f g h => Nat.beq a e && Nat.beq b f && Nat.beq c g && Nat.beq d h
 | .eptr a b, .eptr c d => Nat.beq a c && Nat.beq b d
 | .pan a, .pan b => a.same b
 | _, _ => false
def AV.sames : List AV → List AV → Bool
 | [], [] => true
 | a :: x, b :: y => a.same b && AV.sames x y
 | _, _ => false
end
def optSame {α : Type} (f : α → α → Bool) : Option α → Option α → Bool
 | none, none => true
 | some a, some b => f a b
 | _, _ => false
def optSub {α : Type} (f : α → α → Bool) : Option α → Option α → Bool
 | none, _ => true
 | some a, some b => f a b
 | _, _ => false
def Tr.isEmpty {α : Type} : Tr α → Bool
 | .nil => true
 | .node v l r => v.isNone && l.isEmpty && r.isEmpty
def Tr.sub {α : Type} (f : α → α → Bool) : Tr α → Tr α → Bool
 | .nil, _ => true
 | .node v l r, .nil => (Tr.node v l r).isEmpty
 | .node v l r, .node v' l' r' => optSub f v v' && l.sub f l' && r.sub f r'
def natsSame : List Nat → List Nat → Bool := strEq
def Sz.same : Sz → Sz → Bool
 | .fix a, .fix b => Nat.beq a b
 | .opn a b c, .opn d e f => Nat.beq a d && optSame Nat.beq b e && Nat.beq c f
 | _, _ => false
def XE.same : XE → XE → Bool
 | .normal, .normal | .ret, .ret => true
 | .exit a, .exit b => Nat.beq a b
 | _, _ => false
def Fr.sub (a b : Fr) : Bool := a.tm.sub AV.same b.tm && b.tm.sub AV.same a.tm && Nat.beq a.n b.n
def MEs.same : List ME → List ME → Bool
 | [], [] => true
 | a :: x, b :: y => a.key.same b.key && a.val.same b.val && Nat.beq a.born b.born && MEs.same x y
 | _, _ => false
def AObj.sub : AObj → AObj → Bool
 | .blk e r s c, .blk e' r' s' c' => Nat.beq e e' && r == r' && s.same s' && c.sub AV.same c'
 | .loop s p f fr ps d, .loop s' p' f' fr' ps' d' => s == s' && optSame XE.same p p' && Nat.beq f f' && fr.sub fr' && natsSame ps ps' && Nat.beq d d'
 | .defr a, .defr b => a == b
 | .siter s p, .siter s' p' => strEq s s' && Nat.beq p p'
 | .mobj es c, .mobj es' c' => MEs.same es es' && Nat.beq c c'
 | .miter m s l p, .miter m' s' l' p' => optSame Nat.beq m m' && Nat.beq s s' && natsSame l l' && Nat.beq p p'
 | .arg c, .arg c' => c.sub AV.same c'
 | _, _ => false
structure Rec where
 code : Option Nat → FuncId → List (Nat × Code × Code) → Fr → AHeap → Code → Option (List (XE × Fr × AHeap))
 call : List (Nat × Code × Code) → AV → List AV → AHeap → Option (List (AV × AHeap))
def bindL {α β : Type} (f : α → Option (List β)) : List α → Option (List β)
 | [] => some []
 | x :: xs => match f x with
  | none => none
  | some ys => match bindL f xs with
   | none => none
   | some zs => some (ys ++ zs)
def Fr.put : Fr → Option Tmp → AV → Fr
 | ⟨tm, n, ds⟩, some d, v => (@Bool.rec (fun _ => _) (⟨tm, n, ds⟩) (⟨tm.set d (some v), n, ds⟩) (Nat.blt d n))
 | fr, none, _ => fr
def guardIs (want : Bool) : Option AV → Option Bool
 | some (.bool b) => some (b == want)
 | some (.sym _) => none
 | _ => some false
def guardAt (tm : Tr AV) (want : Bool) : Option Oper → Option Bool
 | some { dst := some d, .. } => guardIs want (tm.get d)
 | _ => some false
def wantedA (ops : List Oper) (tm : Tr AV) : Option (Nat × Bool) → Option Bool
 | none => some true
 | some (j, want) => guardAt tm want ops[j]?
def one1 {α β : Type} (f : α → β) : Option α → Option (List β)
 | some x => some [f x]
 | none => none
def newOf (H : AHeap) (p : AV × AObj) : AV × AHeap := (p.1, H.new p.2)
def convOr (H : AHeap) (k : Option (List (AV × AHeap))) : Option (AV × AObj) → Option (List (AV × AHeap))
 | some p => some [newOf H p]
 | none => k
def quietOr (H : AHeap) (k : Option (List (AV × AHeap))) : Option AV → Option (List (AV × AHeap))
 | some v => some [(v, H)]
 | none => k
def callVals (R : Rec) (L : List (Nat × Code × Code)) (H : AHeap) : Option AV → Option (List AV) → Option (List (AV × AHeap))
 | some fv, some vs => R.call L fv vs H
 | _, _ => none
def callOf (R : Rec) (L : List (Nat × Code × Code)) (ev : Operand → Option AV) (H : AHeap) (args : Array Operand) : Callee → Option (List (AV × AHeap))
 | .value f => callVals R L H (ev f) (evals ev args.toList)
 | _ => none
def callOp (R : Rec) (L : List (Nat × Code × Code)) (ev : Operand → Option AV) (H : AHeap) : Op → Option (List (AV × AHeap))
 | .call c => callOf R L ev H c.args c.callee
 | _ => none
def bump : AHeap → AHeap
 | ⟨n, o⟩ => ⟨n + 1, o⟩
def wOrFork (k : Option (List (AV × AHeap))) : Option (AV × AHeap) → Option (List (AV × AHeap))
 | some p => some [p]
 | none => k
def oneOp2 (X : XP) (R : Rec) (L : List (Nat × Code × Code)) (ev : Operand → Option AV) (H : AHeap) (op : Op) : Nat → Option (List (AV × AHeap))
 | 0 => quietOr H (convOr H (forkOp X ev H op) (convOp X ev H.next op)) (qop X ev H op)
 | 1 => one1 (newOf H) (allocOp X ev H.next op)
 | 2 => wOrFork (forkW ev (bump H) op) (wop X ev H.next (bump H) op)
 | _ => callOp R L ev H op
def oneOp (X : XP) (R : Rec) (L : List (Nat × Code × Code)) (fr : Fr) (H : AHeap) (o : Oper) : Option (List (AV × AHeap)) :=
 oneOp2 X R L (evalA X fr.tm) H o.op (opClass o.op)
def bindOuts {α β : Type} (f : α → Option (List β)) : Option (List α) → Option (List β)
 | some [x] => f x
 | some l => bindL f l
 | none => none
mutual
def AV.closed : AV → Bool
 | .undef | .bool _ | .int _ _ | .str _ | .nilp | .nils | .nilm | .nilf | .nili => true
 | .ifc _ v => v.closed
 | .agg l => AV.closeds l
 | .tup l => AV.closeds l
 | _ => false
def AV.closeds : List AV → Bool
 | [] => true
 | v :: vs => v.closed && AV.closeds vs
end
def dfFn : Option AV → Option (List AV) → Option DF
 | some (.fn f a b), some vs => some (.cl f (a ++ vs) b)
 | _, _ => none
def dfCall (ev : Operand → Option AV) (args : Array Operand) : Callee → Option DF
 | .value f => dfFn (ev f) (evals ev args.toList)
 | _ => none
def panVal : Option AV → Option AV
 | some (.ifc t v) => (@Bool.rec (fun _ => _) (none) (some (.ifc t v)) (v.closed))
 | _ => none
def Fr.def : Fr → DF → Fr
 | ⟨tm, n, ds⟩, d => ⟨tm, n, d :: ds⟩
def special (rd : Option Nat) (ev : Operand → Option AV) (kd : DF → Option (List (XE × Fr × AHeap))) (kp : AV → Option (List (XE × Fr × AHeap))) : Op → Option (List (XE × Fr × AHeap))
 | .defer c => (match rd, dfCall ev c.args c.callee with | none, some d => kd d | _, _ => none)
 | .panic x => (match panVal (ev x) with | some v => kp v | none => none)
 | _ => none
def contP (fr : Fr) (H : AHeap) (k : Option (List (XE × Fr × AHeap))) : AV → Option (List (XE × Fr × AHeap))
 | .pan v => some [(.pan v, fr, H)]
 | _ => k
def outsOr {α β : Type} (f : α → Option (List β)) (z : Option (List β)) : Option (List α) → Option (List β)
 | some [x] => f x
 | some l => bindL f l
 | none => z
def runOps (X : XP) (R : Rec) (rd : Option Nat) (L : List (Nat × Code × Code)) (all : List Oper) : List Oper → Fr → AHeap → Option (List (XE × Fr × AHeap))
 | [], fr, H => some [(.normal, fr, H)]
 | o :: os, fr, H => match wantedA all fr.tm o.guard with
  | none => none
  | some false => runOps X R rd L all os (fr.put o.dst .undef) H
  | some true => outsOr (fun p => contP fr p.2 (runOps X R rd L all os (fr.put o.dst p.1) p.2) p.1)
   (special rd (evalA X fr.tm) (fun d => runOps X R rd L all os ((fr.put o.dst .undef).def d) H) (fun v => some [(.pan v, fr, H)]) o.op) (oneOp X R L fr H o)
def argTm : Nat → List AV → Tr AV → Tr AV
 | _, [], t => t
 | n, v :: vs, t => argTm (n + 1) vs (t.set n (some v))
def resultA (X : XP) (fr : Fr) (H : AHeap) : ResultVar → Option AV
 | .tmp t => match fr.tm.get t with | some v => some v | none => some .undef
 | .cell a t => match fr.tm.get a with
  | some (.ptr b off) => loadV X H t b off
  | _ => none
def resultsA (X : XP) (fr : Fr) (H : AHeap) : List ResultVar → Option (List AV)
 | [] => some []
 | r :: rs => match resultA X fr H r with
  | none => none
  | some v => match resultsA X fr H rs with
   | none => none
   | some vs => some (v :: vs)
def asResult (H : AHeap) : Option (List AV) → Option (List (AV × AHeap))
 | some [v] => some [(v, H)]
 | some vs => some [(.tup vs, H)]
 | none => none
def isRecB : Builtin → Bool
 | .recover => true
 | _ => false
def isRecC : Callee → Bool
 | .builtin b => isRecB b
 | _ => false
def isRec : Op → Bool
 | .call c => isRecC c.callee
 | _ => false
def regD (X : XP) (R : Rec) (L : List (Nat × Code × Code)) (all : List Oper) (fr : Fr) (H : AHeap) (rv : AV) : List Oper → Option (List (XE × Fr × AHeap))
 | o :: os => (@Bool.rec (fun _ => _) (none) (runOps X R none L all os (fr.put o.dst rv) H) (isRec o.op && o.guard.isNone))
 | [] => none
def bindX (f : Fr → AHeap → Option (List (XE × Fr × AHeap))) : List (XE × Fr × AHeap) → Option (List (XE × Fr × AHeap))
 | [] => some []
 | (.normal, fr, H) :: [] => f fr H
 | (.normal, fr, H) :: r => (match f fr H with
  | none => none
  | some ys => match bindX f r with
   | none => none
   | some zs => some (ys ++ zs))
 | o :: r => match bindX f r with
  | none => none
  | some zs => some (o :: zs)
def seqA (f : Fr → AHeap → Option (List (XE × Fr × AHeap))) : Option (List (XE × Fr × AHeap)) → Option (List (XE × Fr × AHeap))
 | some outs => bindX f outs
 | none => none
def codeD (X : XP) (R : Rec) (L : List (Nat × Code × Code)) (fid : FuncId) (fr : Fr) (H : AHeap) (rv : AV) : Code → Option (List (XE × Fr × AHeap))
 | .seq a b => seqA (fun fr H => R.code none fid L fr H b) (codeD X R L fid fr H rv a)
 | .region _ ops d => (@Bool.rec (fun _ => _) (regD X R L ops.toList fr H rv ops.toList) (none) (d))
 | _ => none
def leaveC (fn : Func) : XE × Fr × AHeap → Option (List (AV × AHeap))
 | (.normal, ⟨_, _, []⟩, H) => (@Bool.rec (fun _ => _) (none) (some [(.undef, H)]) (fn.results.isEmpty))
 | (.ret, ⟨_, _, []⟩, H) => (@Bool.rec (fun _ => _) (none) (some [(.undef, H)]) (fn.results.isEmpty))
 | _ => none
def callD3 (X : XP) (R : Rec) (L : List (Nat × Code × Code)) (f : FuncId) (fn : Func) (as : List AV) (rv : AV) (H : AHeap) : Option Code → Option (List (AV × AHeap))
 | some c => bindOuts (leaveC fn) (codeD X R L f ⟨argTm 0 as .nil, Nat.max as.length fn.ntmps, []⟩ H rv c)
 | none => none
def callD (X : XP) (R : Rec) (L : List (Nat × Code × Code)) (f : FuncId) (as : List AV) (rv : AV) (H : AHeap) : Option Func → Option (List (AV × AHeap))
 | some fn => callD3 X R L f fn as rv H fn.body
 | none => none
def recVal : Option AV → AV
 | some v => v
 | none => .nili
def leaveD (X : XP) (R : Rec) (L : List (Nat × Code × Code)) (fn : Func) (fr : Fr) : List DF → Option AV → AHeap → Option (List (AV × AHeap))
 | [], none, H => asResult H (resultsA X fr H fn.results.toList)
 | [], some v, H => some [(.pan v, H)]
 | .coll d :: ds, m, H => (match H.objs.get d with
  | some (.defr true) => leaveD X R L fn fr ds m (H.set d none)
  | _ => none)
 | .cl f a b :: ds, m, H => bindOuts (fun p => leaveD X R L fn fr ds none p.2) (callD X R L f (a ++ b) (recVal m) H (X.fns.get f))
def leaveFn (X : XP) (R : Rec) (L : List (Nat × Code × Code)) (fn : Func) : XE × Fr × AHeap → Option (List (AV × AHeap))
 | (.exit _, _, _) => none
 | (.pan v, fr, H) => leaveD X R L fn fr fr.defs (some v) H
 | (_, fr, H) => leaveD X R L fn fr fr.defs none H
def findB (c : Nat) : Nat → List Nat → Option Nat
 | _, [] => none
 | i, b :: s => (@Bool.rec (fun _ => _) (findB c (i + 1) s) (some i) (Nat.beq b c))
def Sz.plain : Sz → Bool
 | .fix _ => true
 | .opn _ _ es => !(Nat.beq es 1)
def apartA : Option AObj → Option AObj → Option AV
 | some (.blk _ false s _), some (.blk _ false s' _) => (@Bool.rec (fun _ => _) (none) (some (.bool false)) (s.plain && s'.plain))
 | _, _ => none
def foundA : Option Nat → AV
 | some i => .int .i64 (.ofNat i)
 | none => .int .i64 (-1)
def overlapA (H : AHeap) (es b off n c off' n' : Nat) : Option AV :=
 (@Bool.rec (fun _ => _) ((@Bool.rec (fun _ => _) (apartA (H.objs.get b) (H.objs.get c)) (some (.bool (Nat.blt off (off' + n' * es) && Nat.blt off' (off + n * es)))) (Nat.beq b c))) (some (.bool false)) (Nat.beq n 0 || Nat.beq n' 0 || Nat.beq es 0))
def countB (c : Nat) : Nat → List Nat → Nat
 | n, [] => n
 | n, b :: s => countB c ((@Bool.rec (fun _ => _) (n) (n + 1) (Nat.beq b c))) s
def extA (H : AHeap) : Ext → List AV → Option AV
 | .noEscape, [v] => some v
 | .count, [.str s, .int .u8 (.ofNat c)] => (@Bool.rec (fun _ => _) (none) (some (.int .i64 (.ofNat (countB c 0 s)))) (Nat.blt c 256))
 | .indexByte, [.str s, .int .u8 (.ofNat c)] => (@Bool.rec (fun _ => _) (none) (some (foundA (findB c 0 s))) (Nat.blt c 256))
 | .overlaps es, [.sl b off n _, .sl c off' n' _] => overlapA H es b off n c off' n'
 | _, _ => none
def dropArgs (objs : Tr AObj) : List AV → Tr AObj
 | [] => objs
 | .sl b _ _ _ :: vs => dropArgs (objs.set b none) vs
 | _ :: vs => dropArgs objs vs
def dropFrom (lo : Nat) : Nat → Tr AObj → Tr AObj
 | 0, t => t
 | n + 1, t => dropFrom lo n (t.set (lo + n) none)
def mgObjs (n0 N : Nat) (args : List AV) (H : AHeap) (b : Nat) (o : AObj) : Tr AObj := (dropFrom n0 (H.next - n0) ((dropArgs H.objs args).set b none)).set N (some o)
def mgObj (n0 N : Nat) (args : List AV) (H : AHeap) (b off len : Nat) : Cap → Option AObj → Option (AV × AHeap)
 | .opn k, some (.blk el false (.opn lo _ es) cells) => (@Bool.rec (fun _ => _) (none) (some (.sl N off len (.opn k), ⟨N + 1, mgObjs n0 N args H b (.blk el false (.opn (k + len) none es) cells)⟩)) (Nat.ble (k + len) lo))
 | _, _ => none
def mergeOne (n0 N : Nat) (args : List AV) : AV × AHeap → Option (AV × AHeap)
 | (.sl b off len cap, H) => mgObj n0 N args H b off len cap (H.objs.get b)
 | _ => none
def maxNext : List (AV × AHeap) → Nat
 | [] => 0
 | (_, H) :: r => Nat.max H.next (maxNext r)
def mergeAll (n0 N : Nat) (args : List AV) (v : AV) (H : AHeap) : List (AV × AHeap) → Bool
 | [] => true
 | o :: r => (match mergeOne n0 N args o with
  | some p => v.same p.1 && Nat.beq H.next p.2.next && H.objs.sub AObj.sub p.2.objs && mergeAll n0 N args v H r
  | none => false)
def mergeInto (n0 N : Nat) (args : List AV) (outs r : List (AV × AHeap)) : Option (AV × AHeap) → List (AV × AHeap)
 | some p => (@Bool.rec (fun _ => _) (outs) ([p]) (mergeAll n0 N args p.1 p.2 r))
 | none => outs
def mergeOuts (n0 : Nat) (args : List AV) : List (AV × AHeap) → List (AV × AHeap)
 | [] => []
 | [o] => [o]
 | o :: o' :: r => mergeInto n0 (maxNext (o :: o' :: r)) args (o :: o' :: r) (o' :: r) (mergeOne n0 (maxNext (o :: o' :: r)) args o)
def setParams (n : Nat) : List Tmp → List AV → Tr AV → Option (Tr AV)
 | [], [], t => some t
 | p :: ps, a :: as, t => (@Bool.rec (fun _ => _) (none) (setParams n ps as (t.set p (some a))) (Nat.blt p n))
 | _, _, _ => none
def lookL : List (Nat × Code × Code) → Nat → Option (Code × Code)
 | [], _ => none
 | (n, c) :: r, l => (@Bool.rec (fun _ => _) (lookL r l) (some c) (Nat.beq n l))
def setLoop (H : AHeap) (l : Nat) (st : LoopState) (pend : Option XE) : Option AHeap :=
 match H.objs.get l with
 | some (.loop _ _ fn fr ps d) => some (H.set l (some (.loop st pend fn fr ps d)))
 | _ => none
def endRoundA (l : Nat) : XE × Fr × AHeap → Option (List (AV × AHeap))
 | (.normal, _, H) => (setLoop H l .ready none).map fun H' => [(.bool true, H')]
 | (.pan _, _, _) => none
 | (x, _, H) => (setLoop H l .done (some x)).map fun H' => [(.bool false, H')]
def joinHi : Option Nat → Option Nat → Option Nat
 | some a, some b => some (Nat.max a b)
 | _, _ => none
def joinSz : Sz → Sz → Option Sz
 | .opn a b c, .opn d e f => (@Bool.rec (fun _ => _) (none) (some (.opn (leastN a d) (joinHi b e) c)) (Nat.beq c f))
 | _, _ => none
def meetBlk (el : TypeId) (ro : Bool) (cells : Tr AV) : Option Sz → Option AObj
 | some s => some (.blk el ro s cells)
 | none => none
def meetObj2 : AObj → AObj → Option AObj
 | .blk e r s c, .blk e' r' s' c' => (@Bool.rec (fun _ => _) (none) (meetBlk e r c (joinSz s s')) (Nat.beq e e' && r == r' && c.sub AV.same c'))
 | _, _ => none
def meetObj (x y : AObj) : Option AObj := (@Bool.rec (fun _ => _) (meetObj2 x y) (some x) (AObj.sub x y))
def meetO {α : Type} (f : α → α → Option α) : Option α → Option α → Option α
 | some x, some y => f x y
 | _, _ => none
def Tr.meet {α : Type} (f : α → α → Option α) : Tr α → Tr α → Tr α
 | .nil, _ => .nil
 | .node _ _ _, .nil => .nil
 | .node v l r, .node v' l' r' => .node (meetO f v v') (l.meet f l') (r.meet f r')
def meetH : AHeap → AHeap → AHeap
 | ⟨n, t⟩, ⟨n', t'⟩ => ⟨Nat.max n n', t.meet meetObj t'⟩
def mergeSame (v : AV) : AHeap → List (AV × AHeap) → Option AHeap
 | acc, [] => some acc
 | acc, o :: r => (@Bool.rec (fun _ => _) (none) (mergeSame v (meetH acc o.2) r) (v.same o.1))
def mergeS (outs : List (AV × AHeap)) (v : AV) : Option AHeap → List (AV × AHeap)
 | some H => [(v, H)]
 | none => outs
def mergeV : List (AV × AHeap) → List (AV × AHeap)
 | [] => []
 | [o] => [o]
 | o :: o' :: r => mergeS (o :: o' :: r) o.1 (mergeSame o.1 o.2 (o' :: r))
def mergeIf (n0 : Nat) (as : List AV) (outs : Option (List (AV × AHeap))) : Option Unit → Option (List (AV × AHeap))
 | none => (match outs with | some r => some (mergeV r) | none => none)
 | some _ => (match outs with | some r => some (mergeOuts n0 as r) | none => none)
def callBody (X : XP) (R : Rec) (L : List (Nat × Code × Code)) (f : FuncId) (fn : Func) (as : List AV) (H : AHeap) (c : Code) : Option (List (AV × AHeap)) :=
 bindOuts (leaveFn X R L fn) (R.code none f L ⟨argTm 0 as .nil, Nat.max as.length fn.ntmps, []⟩ H c)
def cloneA (H : AHeap) (t : Nat) : Option AObj → Option (AV × AHeap)
 | some (.mobj es c) => some (.ifc t (.mpr H.next), H.new (.mobj es c))
 | _ => none
def extW (H : AHeap) : Ext → List AV → Option (AV × AHeap)
 | .mapClone, [.ifc t (.mpr b)] => cloneA H t (H.objs.get b)
 | .noZero e, [.int .i64 (.ofNat n)] => (@Bool.rec (fun _ => _) (none) (some (.sl H.next 0 n (.opn 0), H.new (.blk e false (.opn n none 1) .nil))) (Nat.blt n 1048576))
 | _, _ => none
def callExt2 (H : AHeap) (q : Option (AV × AHeap)) : Option AV → Option (List (AV × AHeap))
 | some v => some [(v, H)]
 | none => wOrFork none q
def callExt (H : AHeap) (as : List AV) : Option Ext → Option (List (AV × AHeap))
 | some x => callExt2 H (extW H x as) (extA H x as)
 | none => none
def Tr.minus {α : Type} : Tr α → Tr α → Tr α
 | .nil, h => h
 | .node _ _ _, .nil => .nil
 | .node v l r, .node v' l' r' => .node (match v with | some _ => none | none => v') (l.minus l') (r.minus r')
def Tr.plus {α : Type} : Tr α → Tr α → Tr α
 | .nil, h => h
 | .node v l r, .nil => .node v l r
 | .node v l r, .node v' l' r' => .node (match v with | some x => some x | none => v') (l.plus l') (r.plus r')
def overOut (pre H : Tr AObj) (p : AV × AHeap) : AV × AHeap := (p.1, ⟨p.2.next, p.2.objs.plus (pre.minus H)⟩)
structure RN where
 g : Nat
 n : Nat
 m : Nat
 t : Tr Nat
def renB (ρ : RN) (b : Nat) : Option Nat := (@Bool.rec (fun _ => _) ((@Bool.rec (fun _ => _) (some (ρ.m + (b - ρ.n))) (ρ.t.get b) (Nat.blt b ρ.n))) (some b) (Nat.blt b ρ.g))
def rPtr (o : Nat) : Option Nat → Option AV
 | some c => some (.ptr c o)
 | none => none
def rSl (o n : Nat) (k : Cap) : Option Nat → Option AV
 | some c => some (.sl c o n k)
 | none => none
def rMpr : Option Nat → Option AV
 | some c => some (.mpr c)
 | none => none
def rCapOf (k : Nat) : Option Nat → Option AV
 | some c => some (.capOf c k)
 | none => none
def rAsl (i lo hi : Nat) : Option Nat → Option AV
 | some c => some (.asl c i lo hi)
 | none => none
def rEptr (k : Nat) : Option Nat → Option AV
 | some c => some (.eptr c k)
 | none => none
def rFn (f : FuncId) : Option (List AV) → Option (List AV) → Option AV
 | some a, some b => some (.fn f a b)
 | _, _ => none
def rIfc (t : TypeId) : Option AV → Option AV
 | some v => some (.ifc t v)
 | none => none
def rAgg : Option (List AV) → Option AV
 | some l => some (.agg l)
 | none => none
def rTup : Option (List AV) → Option AV
 | some l => some (.tup l)
 | none => none
def rCons : Option AV → Option (List AV) → Option (List AV)
 | some v, some l => some (v :: l)
 | _, _ => none
mutual
def renV (ρ : RN) : AV → Option AV
 | .ptr b o => rPtr o (renB ρ b)
 | .sl b o n k => rSl o n k (renB ρ b)
 | .mpr b => rMpr (renB ρ b)
 | .fn f a b => rFn f (renVs ρ a) (renVs ρ b)
 | .yld _ => none
 | .ifc t v => rIfc t (renV ρ v)
 | .agg l => rAgg (renVs ρ l)
 | .tup l => rTup (renVs ρ l)
 | .capOf b k => rCapOf k (renB ρ b)
 | .asl b i lo hi => rAsl i lo hi (renB ρ b)
 | .eptr b k => rEptr k (renB ρ b)
 | .pan v => (@Bool.rec (fun _ => _) (none) (some (.pan v)) (v.closed))
 | v => some v
def renVs (ρ : RN) : List AV → Option (List AV)
 | [] => some []
 | v :: vs => rCons (renV ρ v) (renVs ρ vs)
end
def rNode : Option (Option AV) → Option (Tr AV) → Option (Tr AV) → Option (Tr AV)
 | some v, some l, some r => some (.node v l r)
 | _, _, _ => none
def rSome : Option AV → Option (Option AV)
 | some v => some (some v)
 | none => none
def renO (ρ : RN) : Option AV → Option (Option AV)
 | none => some none
 | some v => rSome (renV ρ v)
def renT (ρ : RN) : Tr AV → Option (Tr AV)
 | .nil => some .nil
 | .node v l r => rNode (renO ρ v) (renT ρ l) (renT ρ r)
def rME (n : Nat) : Option AV → Option AV → Option (List ME) → Option (List ME)
 | some k, some v, some l => some (⟨k, v, n⟩ :: l)
 | _, _, _ => none
def renMEs (ρ : RN) : List ME → Option (List ME)
 | [] => some []
 | m :: ms => rME m.born (renV ρ m.key) (renV ρ m.val) (renMEs ρ ms)
def rBlk (el : TypeId) (ro : Bool) (sz : Sz) : Option (Tr AV) → Option AObj
 | some c => some (.blk el ro sz c)
 | none => none
def rMobj (c : Nat) : Option (List ME) → Option AObj
 | some l => some (.mobj l c)
 | none => none
def rArg : Option (Tr AV) → Option AObj
 | some c => some (.arg c)
 | none => none
def rMiter (s : Nat) (l : List Nat) (p : Nat) : Option Nat → Option AObj
 | some b => some (.miter (some b) s l p)
 | none => none
def renObj (ρ : RN) : AObj → Option AObj
 | .blk el ro sz c => rBlk el ro sz (renT ρ c)
 | .loop .. => none
 | .defr b => some (.defr b)
 | .siter s p => some (.siter s p)
 | .mobj es c => rMobj c (renMEs ρ es)
 | .miter none s l p => some (.miter none s l p)
 | .miter (some b) s l p => rMiter s l p (renB ρ b)
 | .arg c => rArg (renT ρ c)
def rPut (acc : Tr AObj) : Option Nat → Option AObj → Option (Tr AObj)
 | some c, some o => some (acc.set c (some o))
 | _, _ => none
def renOne (ρ : RN) (b : Nat) (acc : Tr AObj) : Option AObj → Option (Tr AObj)
 | none => some acc
 | some o => rPut acc (renB ρ b) (renObj ρ o)
def thenT (f : Tr AObj → Option (Tr AObj)) : Option (Tr AObj) → Option (Tr AObj)
 | some t => f t
 | none => none
def renH (ρ : RN) : Tr AObj → Nat → Nat → Tr AObj → Option (Tr AObj)
 | .nil, _, _, acc => some acc
 | .node v l r, p, q, acc => thenT (renH ρ r (2 * p) (2 * p + q)) (thenT (renH ρ l (2 * p) (p + q)) (renOne ρ q acc v))
def rOut (n : Nat) (o : Option (List (AV × AHeap))) : Option AV → Option (Tr AObj) → Option (List (AV × AHeap))
 | some v, some t => (match o with | some l => some ((v, ⟨n, t⟩) :: l) | none => none)
 | _, _ => none
def renOuts (ρ : RN) : List (AV × AHeap) → Option (List (AV × AHeap))
 | [] => some []
 | o :: r => rOut (ρ.m + (o.2.next - ρ.n)) (renOuts ρ r) (renV ρ o.1) (renH ρ o.2.objs 1 0 .nil)
def okTab (ρ : RN) (inv : Tr Nat) : Tr Nat → Nat → Nat → Bool
 | .nil, _, _ => true
 | .node v l r, p, q => (match v with | some c => Nat.ble ρ.g c && Nat.blt c ρ.m && (match inv.get c with | some b => Nat.beq b q | none => false) | none => true) && okTab ρ inv l (2 * p) (p + q) && okTab ρ inv r (2 * p) (2 * p + q)
structure MS where
 t : Tr Nat
 inv : Tr Nat
 todo : List Nat
def bindNew (b c : Nat) (s : MS) : Option Nat → Option MS
 | some _ => none
 | none => some ⟨s.t.set b (some c), s.inv.set c (some b), b :: s.todo⟩
def bindOld (b c : Nat) (s : MS) : Option Nat → Option MS
 | some c' => (@Bool.rec (fun _ => _) (none) (some s) (Nat.beq c' c))
 | none => bindNew b c s (s.inv.get c)
def bindId (g b c : Nat) (s : MS) : Option MS := (@Bool.rec (fun _ => _) (bindOld b c s (s.t.get b)) (((@Bool.rec (fun _ => _) (none) (some s) (Nat.beq b c)))) (Nat.blt b g))
def thenM (f : MS → Option MS) : Option MS → Option MS
 | some s => f s
 | none => none
mutual
def matchV (g : Nat) : AV → AV → MS → Option MS
 | .ptr b o, .ptr c p, s => (@Bool.rec (fun _ => _) (none) (bindId g b c s) (Nat.beq o p))
 | .sl b o n k, .sl c p m l, s => (@Bool.rec (fun _ => _) (none) (bindId g b c s) (Nat.beq o p && Nat.beq n m && k.same l))
 | .mpr b, .mpr c, s => bindId g b c s
 | .capOf b k, .capOf c l, s => (@Bool.rec (fun _ => _) (none) (bindId g b c s) (Nat.beq k l))
 | .asl b i l h, .asl c j m n, s => (@Bool.rec (fun _ => _) (none) (bindId g b c s) (Nat.beq i j && Nat.beq l m && Nat.beq h n))
 | .eptr b k, .eptr c l, s => (@Bool.rec (fun _ => _) (none) (bindId g b c s) (Nat.beq k l))
 | .fn f a b, .fn f' c d, s => (@Bool.rec (fun _ => _) (none) (thenM (matchVs g b d) (matchVs g a c s)) (Nat.beq f f'))
 | .ifc t a, .ifc u b, s => (@Bool.rec (fun _ => _) (none) (matchV g a b s) (Nat.beq t u))
 | .agg a, .agg b, s => matchVs g a b s
 | .tup a, .tup b, s => matchVs g a b s
 | a, b, s => (@Bool.rec (fun _ => _) (none) (some s) (a.same b))
def matchVs (g : Nat) : List AV → List AV → MS → Option MS
 | [], [], s => some s
 | a :: x, b :: y, s => thenM (matchVs g x y) (matchV g a b s)
 | _, _, _ => none
end
def matchO (g : Nat) : Option AV → Option AV → MS → Option MS
 | none, _, s => some s
 | some a, some b, s => matchV g a b s
 | _, _, _ => none
def matchT (g : Nat) : Tr AV → Tr AV → MS → Option MS
 | .nil, _, s => some s
 | .node v l r, .node v' l' r', s => thenM (matchT g r r') (thenM (matchT g l l') (matchO g v v' s))
 | .node _ _ _, .nil, _ => none
def matchMEs (g : Nat) : List ME → List ME → MS → Option MS
 | [], [], s => some s
 | a :: x, b :: y, s => (@Bool.rec (fun _ => _) (none) (thenM (matchMEs g x y) (thenM (matchV g a.val b.val) (matchV g a.key b.key s))) (Nat.beq a.born b.born))
 | _, _, _ => none
def matchObj (g : Nat) : AObj → AObj → MS → Option MS
 | .blk e r s c, .blk e' r' s' c', m => (@Bool.rec (fun _ => _) (none) (matchT g c c' m) (Nat.beq e e' && r == r' && s.same s'))
 | .mobj es c, .mobj es' c', m => (@Bool.rec (fun _ => _) (none) (matchMEs g es es' m) (Nat.beq c c'))
 | .miter (some b) a l p, .miter (some c) a' l' p', m => (@Bool.rec (fun _ => _) (none) (bindId g b c m) (Nat.beq a a' && natsSame l l' && Nat.beq p p'))
 | .arg c, .arg c', m => matchT g c c' m
 | a, b, m => (@Bool.rec (fun _ => _) (none) (some m) (AObj.sub a b))
def matchOb (g : Nat) : Option AObj → Option AObj → MS → Option MS
 | none, _, m => some m
 | some a, some b, m => matchObj g a b m
 | _, _, _ => none
def hisOb (H : Tr AObj) : Option Nat → Option AObj
 | some c => H.get c
 | none => none
def matchAll (g : Nat) (pre H : Tr AObj) : Nat → MS → Option MS
 | 0, _ => none
 | n + 1, ⟨t, i, []⟩ => some ⟨t, i, []⟩
 | n + 1, ⟨t, i, b :: r⟩ => thenM (matchAll g pre H n) (matchOb g (pre.get b) (hisOb H (t.get b)) ⟨t, i, r⟩)
def renEnt (H : AHeap) (args : List AV) (ρ : RN) (inv : Tr Nat) : Option (List AV) → Option (Tr AObj) → Option (List (AV × AHeap)) → Option (List (AV × AHeap))
 | some as, some pre, some outs => (@Bool.rec (fun _ => _) (none) (some (outs.map (overOut pre H.objs))) (Nat.ble ρ.g ρ.n && Nat.ble ρ.g ρ.m && okTab ρ inv ρ.t 1 0 && AV.sames as args && pre.sub AObj.sub H.objs))
 | _, _, _ => none
def lookRen2 (g : Nat) (args : List AV) (H : AHeap) (as : List AV) (pre : AHeap) (outs : List (AV × AHeap)) : Option MS → Option (List (AV × AHeap))
 | some s => renEnt H args ⟨g, pre.next, H.next, s.t⟩ s.inv (renVs ⟨g, pre.next, H.next, s.t⟩ as) (renH ⟨g, pre.next, H.next, s.t⟩ pre.objs 1 0 .nil) (renOuts ⟨g, pre.next, H.next, s.t⟩ outs)
 | none => none
def lookRen (g : Nat) (args : List AV) (H : AHeap) (as : List AV) (pre : AHeap) (outs : List (AV × AHeap)) : Option (List (AV × AHeap)) :=
 lookRen2 g args H as pre outs (thenM (matchAll g pre.objs H.objs (pre.next + 1)) (matchVs g as args ⟨.nil, .nil, []⟩))
def elseE (z : Option (List (AV × AHeap))) : Option (List (AV × AHeap)) → Option (List (AV × AHeap))
 | some o => some o
 | none => z
def lookE (g : Nat) (args : List AV) (H : AHeap) : List Ent → Option (List (AV × AHeap))
 | [] => none
 | .pure as v :: r => (@Bool.rec (fun _ => _) (lookE g args H r) (some [(v, H)]) (AV.sames as args))
 | .loc as pre outs :: r => (@Bool.rec (fun _ => _) (elseE (lookE g args H r) (lookRen g args H as pre outs)) (some (outs.map (overOut pre.objs H.objs))) (AV.sames as args && Nat.ble H.next pre.next && pre.objs.sub AObj.sub H.objs))
def lookM (g : Nat) (args : List AV) (H : AHeap) : Option (List Ent) → Option (List (AV × AHeap))
 | none => none
 | some es => lookE g args H es
def sumLook (cs : List AV) : List OraE → Option AV
 | [] => none
 | o :: r => (match o.cells with | some ds => ((@Bool.rec (fun _ => _) (sumLook cs r) (some o.r) (AV.sames ds cs))) | none => sumLook cs r)
def byteAV : AV → Bool
 | .int .u8 (.ofNat n) => Nat.blt n 256
 | .res _ (.nat .u8 (.byt _) _ _) => true
 | _ => false
def sumAt (X : XP) : Option (List AV) → Option AV
 | some cs => (@Bool.rec (fun _ => _) (none) (sumLook cs X.ora) (cs.all byteAV))
 | none => none
def sumA (X : XP) (H : AHeap) (f : FuncId) : List AV → Option AV
 | [.sl b off n _] => (@Bool.rec (fun _ => _) (none) (((@Bool.rec (fun _ => _) (none) (sumAt X (getCells H b off n)) (Nat.ble n 65536)))) (memN f X.sums))
 | _ => none
def sumOuts (H : AHeap) : Option AV → Option (List (AV × AHeap))
 | some v => some [(v, H)]
 | none => none
def handOr (z : Option AV) : Option AV → Option AV
 | some v => some v
 | none => z
def handLook (f : FuncId) (as : List AV) (H : AHeap) : List (Nat × (List AV → AHeap → Option AV)) → Option AV
 | [] => none
 | p :: r => (@Bool.rec (fun _ => _) (handLook f as H r) (handOr (handLook f as H r) (p.2 as H)) (Nat.beq p.1 f))
def knowA (X : XP) (f : FuncId) (as : List AV) (H : AHeap) : Option (List (AV × AHeap)) := elseE (sumOuts H (handOr (sumA X H f as) (handLook f as H X.hand))) (lookM X.glob as H (X.memo.get f))
def callFn2 (X : XP) (R : Rec) (L : List (Nat × Code × Code)) (f : FuncId) (fn : Func) (as : List AV) (H : AHeap) : Option Code → Option (List (AV × AHeap))
 | some c => (match knowA X f as H with | some outs => some outs | none => mergeIf H.next as (callBody X R L f fn as H c) (X.mrg.get f))
 | none => callExt H as (X.ext.get f)
def callFn (X : XP) (R : Rec) (L : List (Nat × Code × Code)) (f : FuncId) (as : List AV) (H : AHeap) : Option Func → Option (List (AV × AHeap))
 | some fn => callFn2 X R L f fn as H fn.body
 | none => none
def roundBody2 (R : Rec) (L : List (Nat × Code × Code)) (l : Nat) (fn : FuncId) (fr1 : Fr) (H1 : AHeap) (body : Code) : Option AObj → Option (List (AV × AHeap))
 | some (.loop .ready pend fn' fr' ps' d') => bindOuts (endRoundA l) (R.code (some l) fn L fr1 (H1.set l (some (.loop .busy pend fn' fr' ps' d'))) body)
 | _ => none
def roundBody (R : Rec) (L : List (Nat × Code × Code)) (l : Nat) (fn : FuncId) (body : Code) : XE × Fr × AHeap → Option (List (AV × AHeap))
 | (.normal, fr1, H1) => roundBody2 R L l fn fr1 H1 body (H1.objs.get l)
 | _ => none
def round2 (R : Rec) (L : List (Nat × Code × Code)) (l : Nat) (fn : FuncId) (n : Nat) (H : AHeap) (asg body : Code) : Option (Tr AV) → Option (List (AV × AHeap))
 | some tm => bindOuts (roundBody R L l fn body) (R.code (some l) fn L ⟨tm, n, []⟩ H asg)
 | none => none
def roundA (R : Rec) (L : List (Nat × Code × Code)) (l : Nat) (args : List AV) (H : AHeap) : Option AObj → Option (Code × Code) → Option (List (AV × AHeap))
 | some (.loop .ready _ fn fr ps _), some c => round2 R L l fn fr.n H c.1 c.2 (setParams fr.n ps args fr.tm)
 | _, _ => none
def callStep (X : XP) (R : Rec) (L : List (Nat × Code × Code)) (fv : AV) (args : List AV) (H : AHeap) : Option (List (AV × AHeap)) :=
 match fv with
 | .fn f first captured => callFn X R L f (first ++ args ++ captured) H (X.fns.get f)
 | .yld l => roundA R L l args H (H.objs.get l) (lookL L l)
 | _ => none
def inBlockA (id : Nat) : XE × Fr × AHeap → XE × Fr × AHeap
 | (.exit i, r) => (@Bool.rec (fun _ => _) ((.exit i, r)) ((.normal, r)) (Nat.beq i id))
 | o => o
def endLoop2 (l : Nat) (fr : Fr) (H : AHeap) : Option AObj → Option (List (XE × Fr × AHeap))
 | some (.loop .busy _ _ _ _ _) => none
 | some (.loop _ none _ _ _ _) => some [(.normal, fr, H.set l none)]
 | some (.loop _ (some (.pan _)) _ _ _ _) => none
 | some (.loop _ (some x) _ _ _ _) => some [(x, fr, H.set l none)]
 | _ => none
def endLoop1 (k : Option (List (XE × Fr × AHeap))) : AV → Option (List (XE × Fr × AHeap))
 | .pan _ => none
 | _ => k
def endLoopA (l : Nat) (fr : Fr) (p : AV × AHeap) : Option (List (XE × Fr × AHeap)) := endLoop1 (endLoop2 l fr p.2 (p.2.objs.get l)) p.1
def bget : Option Nat → Nat
 | some m => m
 | none => 0
def befOf (B : Tr Nat) : List Edge → Nat → Nat
 | [], m => m
 | e :: es, m => (@Bool.rec (fun _ => _) (befOf B es m) (befOf B es (Nat.lor (Nat.lor m (Nat.pow 2 e.on)) (bget (B.get e.on)))) (Region.binds .any e))
def befs : Nat → List Oper → Tr Nat → Tr Nat
 | _, [], B => B
 | i, o :: os, B => befs (i + 1) os (B.set i (some (befOf B o.after.toList 0)))
def bit (B : Tr Nat) (i j : Nat) : Bool := Nat.testBit (bget (B.get i)) j
def evalR (X : XP) (tm : Tr AV) (names : List Tmp) : Operand → Option AV
 | .tmp t => (@Bool.rec (fun _ => _) (none) (evalA X tm (.tmp t)) (memN t names))
 | x => evalA X tm x
def guardSeen (names : List Tmp) : Option Oper → Bool
 | some { dst := some d, .. } => memN d names
 | _ => true
def wantedR (names : List Tmp) (ops : List Oper) (tm : Tr AV) : Option (Nat × Bool) → Option Bool
 | none => some true
 | some (j, want) => (@Bool.rec (fun _ => _) (none) (guardAt tm want ops[j]?) (guardSeen names ops[j]?))
def dstIn (names : List Tmp) : Option Tmp → Bool
 | some t => memN t names
 | none => false
def okPair (B : Tr Nat) (i : Nat) (names : List Tmp) (j : Nat) (d : Option Tmp) : Bool :=
 (@Bool.rec (fun _ => _) (true) (((@Bool.rec (fun _ => _) ((@Bool.rec (fun _ => _) (true) (bit B j i) (Nat.blt i j))) (bit B i j) (Nat.blt j i)))) (dstIn names d))
def okRow (B : Tr Nat) (i : Nat) (names : List Tmp) : Nat → List Oper → Bool
 | _, [] => true
 | j, p :: ps => okPair B i names j p.dst && okRow B i names (j + 1) ps
def okRows (B : Tr Nat) (all : Array Oper) : Nat → List Oper → Bool
 | _, [] => true
 | i, o :: os => okRow B i (o.looksAt all) 0 all.toList && okRows B all (i + 1) os
def otherDst (d : Option Tmp) (o : Oper) : Bool :=
 match d, o.dst with
 | some t, some u => !(Nat.beq t u)
 | _, _ => true
def okDst : List Oper → Bool
 | [] => true
 | o :: os => os.all (otherDst o.dst) && okDst os
def okEdges (i : Nat) (o : Oper) : Bool := o.after.toList.all (fun e => (@Bool.rec (fun _ => _) (true) (Nat.blt e.on i) (Region.binds .any e)))
def okAllEdges : Nat → List Oper → Bool
 | _, [] => true
 | i, o :: os => okEdges i o && okAllEdges (i + 1) os
def okStatic (all : Array Oper) : Bool :=
 okRows (befs 0 all.toList .nil) all 0 all.toList && okDst all.toList && okAllEdges 0 all.toList
inductive RK where
 | skip
 | pure
 | rd
 | alloc (ob : AObj)
 | act (post : AHeap) (ab : Nat)
structure RRec where
 k : RK
 v : AV
 fr : Fr
inductive RGo where
 | bad
 | pan (l : List RRec) (v : AV) (fr : Fr) (H : AHeap)
 | need (b : Nat)
 | ok (l : List RRec) (fr : Fr) (H : AHeap)
def absorb (base : Nat) (m : Nat) : List (Nat × AObj) → Tr AObj → Tr AObj
 | [], t => t
 | (i, ob) :: l, t => (@Bool.rec (fun _ => _) (absorb base m l t) (absorb base m l (t.set (base + i) (some ob))) (Nat.testBit m i))
def leftOf (m : Nat) : List (Nat × AObj) → List (Nat × AObj)
 | [] => []
 | (i, ob) :: l => (@Bool.rec (fun _ => _) ((i, ob) :: leftOf m l) (leftOf m l) (Nat.testBit m i))
def hEmpty : AHeap := ⟨0, .nil⟩
def withNew (base m : Nat) (pr : List (Nat × AObj)) : AHeap → AHeap
 | ⟨n, t⟩ => ⟨n, absorb base m pr t⟩
def consRec (r : RRec) : RGo → RGo
 | .ok l fr H => .ok (r :: l) fr H
 | .pan l v fr H => .pan (r :: l) v fr H
 | x => x
def allNew (base : Nat) : List (Nat × AObj) → Tr AObj → Tr AObj
 | [], t => t
 | (i, ob) :: l, t => allNew base l (t.set (base + i) (some ob))
def finRegion (base : Nat) (fr : Fr) (pr : List (Nat × AObj)) : AHeap → RGo
 | ⟨n, t⟩ => .ok [] fr ⟨n, allNew base pr t⟩
def needOf : Option AV → RGo
 | some (.sl b _ _ (.opn _)) => .need b
 | _ => .bad
def fkNeed (ev : Operand → Option AV) : Op → RGo
 | .slice _ x _ none none => needOf (ev x)
 | _ => .bad
def goQ (k : RK → AV → RGo) (z : RGo) (q : Option AV) : Option AV → RGo
 | some v => k .pure v
 | none => (match q with | some v => k .rd v | none => z)
def goAl (k : AV → AObj → RGo) : Option (AV × AObj) → RGo
 | some p => k p.1 p.2
 | none => .bad
def goAct1 (k : RGo) (kp : AV → RGo) : AV → RGo
 | .pan u => kp u
 | _ => k
def goAct (k : AV → AHeap → RGo) (kp : AV → AHeap → RGo) : Option (List (AV × AHeap)) → RGo
 | some [p] => goAct1 (k p.1 p.2) (fun u => kp u p.2) p.1
 | _ => .bad
def laterAll (B : Tr Nat) (i : Nat) : Nat → List Oper → Bool
 | _, [] => true
 | k, _ :: os => bit B k i && laterAll B i (k + 1) os
def regOp (X : XP) (R : Rec) (L : List (Nat × Code × Code)) (base i m : Nat) (H : AHeap) (pr : List (Nat × AObj)) (ev : Operand → Option AV) (op : Op) (kq : RK → AV → RGo) (kl : AV → AObj → RGo) (ka : AV → AHeap → RGo) (kp : AV → AHeap → RGo) : Nat → RGo
 | 0 => goQ kq (fkNeed ev op) (qop X ev (withNew base m pr H) op) (qop X ev hEmpty op)
 | 1 => goAl kl (allocOp X ev (base + i) op)
 | c + 2 => goAct ka kp (oneOp2 X R L ev (withNew base m pr H) op (c + 2))
def regGo (X : XP) (R : Rec) (L : List (Nat × Code × Code)) (all : Array Oper) (B : Tr Nat) (base : Nat) : List Oper → Nat → Fr → AHeap → List (Nat × AObj) → Nat → Nat → RGo
 | [], _, fr, H, pr, _, _ => finRegion base fr pr H
 | o :: os, i, fr, H, pr, am, ab =>
  match wantedR (o.looksAt all) all.toList fr.tm o.guard with
  | none => .bad
  | some false => consRec ⟨.skip, .undef, fr⟩ (regGo X R L all B base os (i + 1) (fr.put o.dst .undef) H pr am ab)
  | some true => regOp X R L base i (bget (B.get i)) H pr (evalR X fr.tm (o.looksAt all)) o.op
   (fun k v => consRec ⟨k, v, fr⟩ (regGo X R L all B base os (i + 1) (fr.put o.dst v) H pr am ab))
   (fun v ob => consRec ⟨.alloc ob, v, fr⟩ (regGo X R L all B base os (i + 1) (fr.put o.dst v) H (pr ++ [(i, ob)]) am ab))
   (fun v H' => (@Bool.rec (fun _ => _) (.bad) (consRec ⟨.act H' (Nat.lor ab (bget (B.get i))), v, fr⟩ (regGo X R L all B base os (i + 1) (fr.put o.dst v) H' (leftOf (bget (B.get i)) pr) (Nat.lor am (Nat.pow 2 i)) (Nat.lor ab (bget (B.get i))))) (Nat.beq (Nat.land am (bget (B.get i))) am)))
   (fun u H' => (@Bool.rec (fun _ => _) (.bad) (.pan [] u fr H') (Nat.beq (bget (B.get i)) (Nat.pred (Nat.pow 2 i)) && laterAll B i (i + 1) os)))
   (opClass o.op)
def actsOf : Nat → List RRec → List (Nat × Nat × AHeap)
 | _, [] => []
 | i, r :: l => (match r.k with
  | .act post ab => (i, ab, post) :: actsOf (i + 1) l
  | _ => actsOf (i + 1) l)
def allocsOf : Nat → List RRec → List (Nat × AObj)
 | _, [] => []
 | i, r :: l => (match r.k with
  | .alloc ob => (i, ob) :: allocsOf (i + 1) l
  | _ => allocsOf (i + 1) l)
def isSame (v : AV) : Option AV → Bool
 | some u => v.same u
 | none => false
def rdAll (X : XP) (B : Tr Nat) (base i : Nat) (ev : Operand → Option AV) (op : Op) (v : AV) (als : List (Nat × AObj)) (H : AHeap) (ab : Nat) : List (Nat × Nat × AHeap) → Bool
 | [] => isSame v (qop X ev (withNew base (bget (B.get i)) (leftOf ab als) H) op)
 | (j, ab', H') :: r => (bit B i j || r.any (fun p => bit B i p.1) || isSame v (qop X ev (withNew base (bget (B.get i)) (leftOf ab als) H) op)) && (bit B j i || rdAll X B base i ev op v als H' ab' r)
def isRd : RK → Bool
 | .rd => true
 | _ => false
def rdOk (X : XP) (all : Array Oper) (B : Tr Nat) (base : Nat) (als : List (Nat × AObj)) (acts : List (Nat × Nat × AHeap)) (H : AHeap) : Nat → List Oper → List RRec → Bool
 | i, o :: os, r :: l => ((@Bool.rec (fun _ => _) (true) (rdAll X B base i (evalR X r.fr.tm (o.looksAt all)) o.op r.v als H 0 acts) (isRd r.k))) && rdOk X all B base als acts H (i + 1) os l
 | _, _, _ => true
def appL {α : Type} : Option (List α) → Option (List α) → Option (List α)
 | some a, some b => some (a ++ b)
 | _, _ => none
def forkAt (k : AHeap → Option (List (XE × Fr × AHeap))) (H : AHeap) (b : Nat) : Option AObj → Option (List (XE × Fr × AHeap))
 | some (.blk el false (.opn low hi es) cells) => appL (k (H.set b (some (.blk el false (.opn (low + 1) hi es) cells)))) (k (H.set b (some (.blk el false (.opn low (some (low + 1)) es) cells))))
 | _ => none
def rdChk (X : XP) (all : Array Oper) (B : Tr Nat) (base : Nat) (H : AHeap) (l : List RRec) : List (Nat × Nat × AHeap) → Bool
 | [] => true
 | p :: r => rdOk X all B base (allocsOf 0 l) (p :: r) H 0 all.toList l
def regionDone (X : XP) (all : Array Oper) (k : AHeap → Option (List (XE × Fr × AHeap))) (H H1 : AHeap) : RGo → Option (List (XE × Fr × AHeap))
 | .bad => none
 | .need b => forkAt k H b (H.objs.get b)
 | .pan l v fr' H' => (@Bool.rec (fun _ => _) (none) (some [(.pan v, fr', H')]) (rdChk X all (befs 0 all.toList .nil) H.next H1 l (actsOf 0 l)))
 | .ok l fr' H' => (@Bool.rec (fun _ => _) (none) (some [(.normal, fr', H')]) (rdChk X all (befs 0 all.toList .nil) H.next H1 l (actsOf 0 l)))
def reserve (n : Nat) : AHeap → AHeap
 | ⟨m, o⟩ => ⟨m + n, o⟩
def regionFork (X : XP) (R : Rec) (L : List (Nat × Code × Code)) (ops : Array Oper) (fr : Fr) : Nat → AHeap → Option (List (XE × Fr × AHeap))
 | 0, _ => none
 | n + 1, H => regionDone X ops (regionFork X R L ops fr n) H (reserve ops.size H) (regGo X R L ops (befs 0 ops.toList .nil) H.next ops.toList 0 fr (reserve ops.size H) [] 0 0)
def regionDraw (X : XP) (R : Rec) (L : List (Nat × Code × Code)) (ops : Array Oper) (fr : Fr) (H : AHeap) : Option (List (XE × Fr × AHeap)) :=
 (@Bool.rec (fun _ => _) (none) (regionFork X R L ops fr 3 H) (okStatic ops))
def condA (a b : Option (List (XE × Fr × AHeap))) : Option AV → Option (List (XE × Fr × AHeap))
 | some (.bool true) => a
 | some (.bool false) => b
 | _ => none
def blockA (id : Nat) : Option (List (XE × Fr × AHeap)) → Option (List (XE × Fr × AHeap))
 | some outs => some (outs.map (inBlockA id))
 | none => none
def pushDef : Fr → Nat → Fr
 | ⟨tm, n, ds⟩, d => ⟨tm, n, .coll d :: ds⟩
def noDefs : Fr → Fr
 | ⟨tm, n, _⟩ => ⟨tm, n, []⟩
def loopDfr : Option AObj → Option Nat
 | some (.loop _ _ _ _ _ d) => some d
 | _ => none
def range3 (R : Rec) (fid : FuncId) (L : List (Nat × Code × Code)) (fr fr' : Fr) (d : Nat) (H : AHeap) (fv : AV) (ps : Array Tmp) (asg body : Code) : Option (List (XE × Fr × AHeap)) :=
 bindOuts (endLoopA H.next fr') (R.call ((H.next, asg, body) :: L) fv [.yld H.next] (H.new (.loop .ready none fid (noDefs fr) ps.toList d)))
def range2 (R : Rec) (rd : Option Nat) (fid : FuncId) (L : List (Nat × Code × Code)) (fr : Fr) (H : AHeap) (fv : AV) (ps : Array Tmp) (asg body : Code) : Option (List (XE × Fr × AHeap)) :=
 match rd with
 | none => range3 R fid L fr (pushDef fr H.next) H.next (H.new (.defr true)) fv ps asg body
 | some l => match loopDfr (H.objs.get l) with
  | some d => range3 R fid L fr fr d H fv ps asg body
  | none => none
def hasBody : Option Func → Bool
 | some fn => fn.body.isSome
 | none => false
def rangeA (X : XP) (R : Rec) (rd : Option Nat) (fid : FuncId) (L : List (Nat × Code × Code)) (fr : Fr) (H : AHeap) (ps : Array Tmp) (asg body : Code) : Option AV → Option (List (XE × Fr × AHeap))
 | some (.fn f a b) => (@Bool.rec (fun _ => _) (none) (range2 R rd fid L fr H (.fn f a b) ps asg body) (hasBody (X.fns.get f)))
 | _ => none
def codeStep (X : XP) (R : Rec) (rd : Option Nat) (fid : FuncId) (L : List (Nat × Code × Code)) (fr : Fr) (H : AHeap) : Code → Option (List (XE × Fr × AHeap))
 | .skip => some [(.normal, fr, H)]
 | .label _ => some [(.normal, fr, H)]
 | .ret => some [(.ret, fr, H)]
 | .exit id => some [(.exit id, fr, H)]
 | .region _ ops d => (@Bool.rec (fun _ => _) (runOps X R rd L ops.toList ops.toList fr H) (regionDraw X R L ops fr H) (d))
 | .seq a b => seqA (fun fr H => R.code rd fid L fr H b) (R.code rd fid L fr H a)
 | .cond c a b => condA (R.code rd fid L fr H a) (R.code rd fid L fr H b) (evalA X fr.tm c)
 | .block id b => blockA id (R.code rd fid L fr H b)
 | .loop b => seqA (fun fr H => R.code rd fid L fr H (.loop b)) (R.code rd fid L fr H b)
 | .rangeFunc f ps asg body => rangeA X R rd fid L fr H ps asg body (evalA X fr.tm f)
 | .scope b => R.code rd fid L fr H b
 | .goto _ => none
 | .refuse _ => none
def stepR (X : XP) (R : Rec) : Rec := { code := codeStep X R, call := callStep X R }
def run (X : XP) (n : Nat) : Rec :=
 Nat.rec { code := fun _ _ _ _ _ _ => none, call := fun _ _ _ _ => none } (fun _ R => stepR X R) n
mutual
def AV.free : AV → Bool
 | .ptr _ _ | .sl _ _ _ _ | .mpr _ | .yld _ | .capOf _ _ | .asl _ _ _ _ | .eptr _ _ | .pan _ => false
 | .fn _ a b => AV.frees a && AV.frees b
 | .ifc _ v => v.free
 | .agg l => AV.frees l
 | .tup l => AV.frees l
 | _ => true
def AV.frees : List AV → Bool
 | [] => true
 | v :: vs => v.free && AV.frees vs
end
def AObj.noLoop : AObj → Bool
 | .loop .. => false
 | _ => true
def Tr.noLoop : Tr AObj → Bool
 | .nil => true
 | .node v l r => (match v with | some o => o.noLoop | none => true) && Tr.noLoop l && Tr.noLoop r
def coverOne (o : AV × AHeap) : List (AV × AHeap) → Bool
 | [] => false
 | p :: r => (@Bool.rec (fun _ => _) (coverOne o r) (true) (p.1.same o.1 && Nat.ble o.2.next p.2.next && p.2.objs.sub AObj.sub o.2.objs))
def covers (outs : List (AV × AHeap)) : List (AV × AHeap) → Bool
 | [] => true
 | o :: r => coverOne o outs && covers outs r
def noLoops : List (AV × AHeap) → Bool
 | [] => true
 | o :: r => o.2.objs.noLoop && noLoops r
def chkOuts (outs : List (AV × AHeap)) : Option (List (AV × AHeap)) → Bool
 | some o => covers outs o
 | none => false
def chkLoc (X : XP) (n f : Nat) (as : List AV) (pre : AHeap) (outs : List (AV × AHeap)) : Bool :=
 hasBody (X.fns.get f) && pre.objs.noLoop && noLoops outs && chkOuts outs ((run X n).call [] (.fn f [] []) as pre)
def chkV (v : AV) : Option (List (AV × AHeap)) → Bool
 | some [p] => v.same p.1
 | _ => false
def chkPure (X : XP) (n f : Nat) (as : List AV) (v : AV) : Bool :=
 hasBody (X.fns.get f) && AV.frees as && v.free && chkV v ((run X n).call [] (.fn f [] []) as ⟨X.glob, .nil⟩)
def isTrueA : AV → Bool
 | .bool b => b
 | _ => false
def outsTrue : List (AV × AHeap) → Bool
 | [] => true
 | o :: r => isTrueA o.1 && outsTrue r
def outsTrue1 : Option (List (AV × AHeap)) → Bool
 | some o => outsTrue o
 | none => false
def chkTrue (X : XP) (n f : Nat) (pre : AHeap) (as : List AV) : Bool :=
 outsTrue1 ((run X n).call [] (.fn f [] []) as pre)
def chkTrues (X : XP) (n f : Nat) (pre : AHeap) : List (List AV) → Bool
 | [] => true
 | as :: r => chkTrue X n f pre as && chkTrues X n f pre r
def chkTop (X : XP) (n f : Nat) (pre : AHeap) (l : List (List AV)) : Bool :=
 hasBody (X.fns.get f) && pre.objs.noLoop && chkTrues X n f pre l
def nl {α : Type} (t : Tr α) : Tr α := .node none t .nil
def nr {α : Type} (t : Tr α) : Tr α := .node none .nil t
def nn {α : Type} (t u : Tr α) : Tr α := .node none t u
def lf {α : Type} (x : α) : Tr α := .node (some x) .nil .nil
def Ii (n : Nat) : AV := .int .i64 (.ofNat n)
def Iu (n : Nat) : AV := .int .u8 (.ofNat n)
def Iq (n : Nat) : AV := .int .u64 (.ofNat n)
def Id (n : Nat) : AV := .int .u32 (.ofNat n)
def Bt : AV := .bool true
def Bf : AV := .bool false
def bl0 : List Nat → List AV
 | [] => []
 | n :: r => Iu n :: bl0 r
def bl (l : List Nat) : Tr AV := Tr.put .nil 0 (bl0 l)
def cl (l : List AV) : Tr AV := Tr.put .nil 0 l
def bk (e n : Nat) (c : Tr AV) : AObj := .blk e false (.fix n) c
def br (e n : Nat) (c : Tr AV) : AObj := .blk e true (.fix n) c
def ho : List (Nat × AObj) → Tr AObj
 | [] => .nil
 | (n, o) :: r => (ho r).set n (some o)
end
end Go.X
