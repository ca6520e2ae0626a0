/- An executor for the model's code over abstract heaps: definitions only. -/
import Derived.AtR
import Derived.Orders
set_option linter.unusedVariables false
set_option linter.unusedSimpArgs false
namespace Go.X
noncomputable section
inductive Tr (α : Type) where
 | nil : Tr α
 | node (v : Option α) (l r : Tr α) : Tr α
def Tr.get {α : Type} (t : Tr α) : Nat → Option α :=
 @Tr.rec α (fun _ => Nat → Option α) (fun _ => none)
  (fun v _ _ gl gr n => @Bool.rec (fun _ => Option α) (@Bool.rec (fun _ => Option α) (gr (Nat.pred (Nat.div n 2))) (gl (Nat.div n 2)) (Nat.beq (Nat.mod n 2) 1)) v (Nat.beq n 0)) t
def Tr.sing {α : Type} (x : Option α) (f : Nat) : Nat → Tr α :=
 @Nat.rec (fun _ => Nat → Tr α) (fun _ => .node x .nil .nil)
  (fun _ g n => @Bool.rec (fun _ => Tr α) (@Bool.rec (fun _ => Tr α) (.node none .nil (g (Nat.pred (Nat.div n 2)))) (.node none (g (Nat.div n 2)) .nil) (Nat.beq (Nat.mod n 2) 1)) (.node x .nil .nil) (Nat.beq n 0)) f
def Tr.set {α : Type} (t : Tr α) (n : Nat) (x : Option α) : Tr α :=
 @Tr.rec α (fun _ => Nat → Tr α) (fun n => Tr.sing x n n)
  (fun v l r sl sr n => @Bool.rec (fun _ => Tr α) (@Bool.rec (fun _ => Tr α) (.node v l (sr (Nat.pred (Nat.div n 2)))) (.node v (sl (Nat.div n 2)) r) (Nat.beq (Nat.mod n 2) 1)) (.node x l r) (Nat.beq n 0)) t n
def Tr.put {α : Type} (t : Tr α) (n : Nat) : List α → Tr α
 | [] => t
 | x :: xs => (t.set n (some x)).put (n + 1) xs
def Tr.take {α : Type} (t : Tr α) (n : Nat) : Nat → Option (List α)
 | 0 => some []
 | k + 1 => match t.get n with
  | none => none
  | some x => match t.take (n + 1) k with
   | none => none
   | some xs => some (x :: xs)
inductive Cap where
 | fix (n : Nat)
 | opn (k : Nat)
inductive AV where
 | undef
 | bool (b : Bool)
 | int (k : IntKind) (n : Int)
 | str (s : List Nat)
 | nilp | nils | nilm | nilf | nili
 | ptr (b off : Nat)
 | sl (b off len : Nat) (cap : Cap)
 | fn (f : FuncId) (first cap : List AV)
 | yld (l : Nat)
 | ifc (t : TypeId) (v : AV)
 | agg (vs : List AV)
 | tup (vs : List AV)
 | capOf (b k : Nat)
 | sym (i : Nat)
structure FldI where
 off : Nat
 ty : Nat
 size : Nat
inductive TK where
 | bool | int (k : IntKind) | str | ptr (e : Nat) | slice (e : Nat) | arr (n e : Nat) | struct (fs : List FldI) | iface | func | other
structure TyI where
 k : TK
 size : Nat
 bytes : Nat
 zero : List AV
 cmp : Bool
inductive Ext where
 | indexByte | overlaps (es : Nat)
inductive Sz where
 | fix (n : Nat)
 | opn (lo : Nat) (hi : Option Nat) (es : Nat)
inductive XE where
 | normal
 | exit (id : Nat)
 | ret
structure Fr where
 tm : Tr AV
 n : Nat
 defs : List Nat
inductive AObj where
 | blk (elem : TypeId) (ro : Bool) (sz : Sz) (cells : Tr AV)
 | loop (st : LoopState) (pend : Option XE) (fn : FuncId) (fr : Fr) (ps : List Tmp) (dfr : Nat)
 | defr (full : Bool)
 | siter (s : List Nat) (pos : Nat)
structure AHeap where
 next : Nat
 objs : Tr AObj
def AHeap.set (H : AHeap) (b : Nat) (o : Option AObj) : AHeap := { H with objs := H.objs.set b o }
def AHeap.new (H : AHeap) (o : AObj) : AHeap := { next := H.next + 1, objs := H.objs.set H.next (some o) }
inductive Ent where
 | pure (args : List AV) (v : AV)
 | loc (args : List AV) (pre : AHeap) (outs : List (AV × AHeap))
structure XP where
 tys : Tr TyI
 fns : Tr Func
 ext : Tr Ext
 mrg : Tr Unit
 glob : Nat
 memo : Tr (List Ent)
def ZaD : Value → Option AV
 | .bool b => some (.bool b)
 | .int k n => some (.int k n)
 | .string s => some (.str (s.data.toList.map (·.toNat)))
 | .pointer none => some .nilp
 | .slice none 0 0 => some .nils
 | .map none => some .nilm
 | .nilFunc => some .nilf
 | .nilIface => some .nili
 | _ => none
def Zbi : List Value → Option (List AV)
 | [] => some []
 | v :: vs => match ZaD v with
  | none => none
  | some x => match Zbi vs with
   | none => none
   | some xs => some (x :: xs)
def ZhQ : Value → Option AV
 | .agg cs => (Zbi cs.toList).map .agg
 | .tuple ⟨[]⟩ => some .undef
 | v => ZaD v
def Zdy (X : XP) (tm : Tr AV) : Operand → Option AV
 | .tmp t => match tm.get t with | some v => some v | none => some .undef
 | .const v => ZhQ v
 | .global g => (@Bool.rec (fun _ => _) (none) (some (.ptr g 0)) (Nat.blt g X.glob))
 | .func f => some (.fn f [] [])
def ZbF (ev : Operand → Option AV) : List Operand → Option (List AV)
 | [] => some []
 | x :: xs => match ev x with
  | none => none
  | some v => match ZbF ev xs with
   | none => none
   | some vs => some (v :: vs)
def AV.cells : AV → List AV
 | .agg vs => vs
 | v => [v]
def AV.isCell : AV → Bool
 | .agg _ | .tup _ | .undef | .sym _ => false
 | _ => true
def AV.noSym : AV → Bool
 | .sym _ => false
 | _ => true
def TyI.isAgg (t : TyI) : Bool := match t.k with | .arr _ _ | .struct _ => true | _ => false
def ZaM (H : AHeap) (b off n : Nat) : Option (List AV) :=
 match H.objs.get b with
 | some (.blk _ _ _ cells) => cells.take off n
 | _ => none
def ZmN (X : XP) (H : AHeap) (t b off : Nat) : Option AV :=
 match X.tys.get t with
 | none => none
 | some ti => (@Bool.rec (fun _ => _) (match ZaM H b off 1 with | some [v] => some v | _ => none) ((match ZaM H b off ti.size with | some l => some (.agg l) | none => none)) (ti.isAgg))
def Sz.least : Sz → Nat
 | .fix n => n
 | .opn lo _ es => es * lo
def putCells (H : AHeap) (b off : Nat) (vs : List AV) : Option AHeap :=
 match H.objs.get b with
 | some (.blk el false sz cells) =>
  (@Bool.rec (fun _ => _) (none) (some (H.set b (some (.blk el false sz (cells.put off vs))))) (Nat.ble (off + vs.length) sz.least && vs.all AV.isCell))
 | _ => none
def ZiN (X : XP) (H : AHeap) (t b off : Nat) (v : AV) : Option AHeap :=
 match X.tys.get t with
 | none => none
 | some ti => (@Bool.rec (fun _ => _) (none) (putCells H b off v.cells) (Nat.beq v.cells.length ti.size))
def kEq : IntKind → IntKind → Bool
 | .i8, .i8 | .i16, .i16 | .i32, .i32 | .i64, .i64 | .u8, .u8 | .u16, .u16 | .u32, .u32 | .u64, .u64 => true
 | _, _ => false
def iEq : Int → Int → Bool
 | .ofNat a, .ofNat b => Nat.beq a b
 | .negSucc a, .negSucc b => Nat.beq a b
 | _, _ => false
def iLt : Int → Int → Bool
 | .ofNat a, .ofNat b => Nat.blt a b
 | .negSucc a, .negSucc b => Nat.blt b a
 | .negSucc _, .ofNat _ => true
 | .ofNat _, .negSucc _ => false
def iLe (a b : Int) : Bool := !(iLt b a)
def ZbX : IntKind → Nat
 | .i8 | .u8 => 256
 | .i16 | .u16 => 65536
 | .i32 | .u32 => 4294967296
 | .i64 | .u64 => 18446744073709551616
def ZjG : IntKind → Nat
 | .i8 => 128 | .i16 => 32768 | .i32 => 2147483648 | .i64 => 9223372036854775808
 | .u8 => 256 | .u16 => 65536 | .u32 => 4294967296 | .u64 => 18446744073709551616
def ZbR (k : IntKind) : Int → Nat
 | .ofNat m => Nat.mod m (ZbX k)
 | .negSucc m => Nat.sub (Nat.pred (ZbX k)) (Nat.mod m (ZbX k))
def wrapN (k : IntKind) (m : Nat) : Int :=
 (@Bool.rec (fun _ => _) (.negSucc (Nat.sub (Nat.pred (ZbX k)) m)) (.ofNat m) (Nat.blt m (ZjG k)))
def Zes (k : IntKind) : Int → Int
 | .ofNat m => (@Bool.rec (fun _ => _) (wrapN k (Nat.mod m (ZbX k))) (.ofNat m) (Nat.blt m (ZjG k)))
 | .negSucc m => wrapN k (Nat.sub (Nat.pred (ZbX k)) (Nat.mod m (ZbX k)))
def ZrM : Int → Int → Int
 | .ofNat a, .ofNat b => .ofNat (Nat.add a b)
 | a, b => a + b
def Zrc : Int → Int → Int
 | .ofNat a, .ofNat b => (@Bool.rec (fun _ => _) (.negSucc (Nat.pred (Nat.sub b a))) (.ofNat (Nat.sub a b)) (Nat.ble b a))
 | a, b => a - b
def Za7 (op : BinOp) (k : IntKind) (a b : Int) : Option AV :=
 match op with
 | .add => some (.int k (Zes k (ZrM a b)))
 | .sub => some (.int k (Zes k (Zrc a b)))
 | .mul => some (.int k (Zes k (a * b)))
 | .quo => (@Bool.rec (fun _ => _) (some (.int k (Zes k (a.tdiv b)))) (none) (iEq b 0))
 | .rem => (@Bool.rec (fun _ => _) (some (.int k (a.tmod b))) (none) (iEq b 0))
 | .and => some (.int k (wrapN k (Nat.land (ZbR k a) (ZbR k b))))
 | .or => some (.int k (wrapN k (Nat.lor (ZbR k a) (ZbR k b))))
 | .xor => some (.int k (wrapN k (Nat.xor (ZbR k a) (ZbR k b))))
 | .andNot => some (.int k (wrapN k (Nat.land (ZbR k a) (Nat.sub (Nat.pred (ZbX k)) (ZbR k b)))))
 | .eql => some (.bool (iEq a b))
 | .neq => some (.bool !(iEq a b))
 | .lss => some (.bool (iLt a b))
 | .leq => some (.bool (iLe a b))
 | .gtr => some (.bool (iLt b a))
 | .geq => some (.bool (iLe b a))
 | _ => none
def ZoD : IntKind → Nat
 | .i8 | .u8 => 8
 | .i16 | .u16 => 16
 | .i32 | .u32 => 32
 | .i64 | .u64 => 64
def Zrk (k : IntKind) (n : Nat) : Int → Option AV
 | .ofNat m => some (.int k (Zes k (.ofNat (Nat.mul m (Nat.pow 2 n)))))
 | a => some (.int k (Zes k (a * .ofNat (Nat.pow 2 n))))
def Zrl (k : IntKind) (n : Nat) : Int → Option AV
 | .ofNat m => some (.int k (.ofNat (Nat.div m (Nat.pow 2 n))))
 | a => some (.int k (a.fdiv (.ofNat (Nat.pow 2 n))))
def ZiO (a b : Nat) : Nat := (@Bool.rec (fun _ => _) (b) (a) (Nat.ble a b))
def ZdX (op : BinOp) (k : IntKind) (a : Int) : Int → Option AV
 | .negSucc _ => none
 | .ofNat b => match op with
  | .shl => Zrk k (ZiO b (ZoD k)) a
  | .shr => Zrl k (ZiO b (ZoD k)) a
  | _ => none
def ZcN : List Nat → List Nat → Bool
 | _, [] => false
 | [], _ :: _ => true
 | a :: x, b :: y => Nat.blt a b || (Nat.beq a b && ZcN x y)
def ZcO : List Nat → List Nat → Bool
 | [], [] => true
 | a :: x, b :: y => Nat.beq a b && ZcO x y
 | _, _ => false
def Zfa (op : BinOp) (x y : List Nat) : Option AV :=
 match op with
 | .add => (@Bool.rec (fun _ => _) (none) (some (.str (x ++ y))) (Nat.blt (x.length + y.length) 4611686018427387904))
 | .eql => some (.bool (ZcO x y))
 | .neq => some (.bool !(ZcO x y))
 | .lss => some (.bool (ZcN x y))
 | .leq => some (.bool (ZcN x y || ZcO x y))
 | .gtr => some (.bool !(ZcN x y || ZcO x y))
 | .geq => some (.bool !(ZcN x y))
 | _ => none
def eq1 (t : TyI) (x y : AV) : Option Bool :=
 match t.k, x, y with
 | .bool, .bool a, .bool b => some (a == b)
 | .int _, .int k a, .int k' b => (@Bool.rec (fun _ => _) (none) (some (iEq a b)) (kEq k k'))
 | .str, .str a, .str b => some (ZcO a b)
 | .ptr _, .nilp, .nilp => some true
 | .ptr _, .nilp, .ptr _ _ => some false
 | .ptr _, .ptr _ _, .nilp => some false
 | .slice _, .nils, .nils => some true
 | .slice _, .nils, .sl _ _ _ _ => some false
 | .slice _, .sl _ _ _ _, .nils => some false
 | .func, .nilf, .nilf => some true
 | .func, .nilf, .fn _ _ _ => some false
 | .func, .fn _ _ _, .nilf => some false
 | .func, .nilf, .yld _ => some false
 | .func, .yld _, .nilf => some false
 | _, _, _ => none
def ZiP : Option TyI → Option AV → Option AV → Option Bool
 | some t, some x, some y => (@Bool.rec (fun _ => _) (eq1 t x y) (none) (t.isAgg))
 | _, _, _ => none
def andThen (k : Option Bool) : Option Bool → Option Bool
 | some true => k
 | r => r
def eqFields (X : XP) (xs ys : List AV) : List FldI → Option Bool
 | [] => some true
 | f :: fs => andThen (eqFields X xs ys fs) (ZiP (X.tys.get f.ty) xs[f.off]? ys[f.off]?)
def eqA (X : XP) (t : TyI) (x y : AV) : Option Bool :=
 match t.k, x, y with
 | .struct fs, .agg xs, .agg ys => (@Bool.rec (fun _ => _) (none) (eqFields X xs ys fs) (t.cmp))
 | _, _, _ => eq1 t x y
def ZkQ (op : BinOp) (r : Option Bool) : Option AV :=
 match op, r with
 | .eql, some b => some (.bool b)
 | .neq, some b => some (.bool !b)
 | _, _ => none
def ZiQ (X : XP) (op : BinOp) (x y : AV) : Option TyI → Option AV
 | some ti => ZkQ op (eqA X ti x y)
 | none => none
def Zn5 (op : BinOp) (k k' : IntKind) (a b : Int) : Option AV :=
 match op with
 | .shl => ZdX .shl k a b
 | .shr => ZdX .shr k a b
 | op => (@Bool.rec (fun _ => _) (none) (Za7 op k a b) (kEq k k'))
def Zrm (X : XP) (op : BinOp) (t : Nat) (x y : AV) : Option AV :=
 match x, y with
 | .int k a, .int k' b => Zn5 op k k' a b
 | .str a, .str b => Zfa op a b
 | x, y => ZiQ X op x y (X.tys.get t)
def unA (op : UnOp) (x : AV) : Option AV :=
 match op, x with
 | .not, .bool b => some (.bool !b)
 | .neg, .int k n => some (.int k (Zes k (Zrc 0 n)))
 | _, _ => none
def ZaY : List AV → Option (List Nat)
 | [] => some []
 | .int .u8 n :: l => match ZaY l with | some r => some (n.toNat % 256 :: r) | none => none
 | _ => none
def Zn6 : AV → Option Nat
 | .int _ (.ofNat n) => some n
 | _ => none
def ZcH (ev : Operand → Option AV) : Option Operand → Option (Option Nat)
 | none => some none
 | some x => match ev x with
  | some v => (Zn6 v).map some
  | none => none
def Zp1 (s : List Nat) (l : Nat) (h : Option Nat) (m : Option Nat) : Option AV :=
 (@Bool.rec (fun _ => _) (none) (some (.str ((s.take (h.getD s.length)).drop l))) (m.isNone && Nat.ble l (h.getD s.length) && Nat.ble (h.getD s.length) s.length))
def ZmO (es b off c l h m : Nat) : Option AV :=
 (@Bool.rec (fun _ => _) (none) (some (.sl b ((@Bool.rec (fun _ => _) (off + l * es) (off) (Nat.beq m l))) (h - l) (.fix (m - l)))) (Nat.ble l h && Nat.ble h m && Nat.ble m c))
def ZoE : Option Nat → Nat → Bool
 | some h, n => Nat.beq h (n + 1)
 | none, _ => false
def Zn7 (es b off k l h lo : Nat) : Option AV :=
 (@Bool.rec (fun _ => _) (none) (some (.sl b (off + l * es) (h - l) (.opn (k + l)))) (Nat.ble l h && Nat.ble (k + h) lo && (Nat.blt (k + l) lo || Nat.beq l 0)))
def ZoF (es b off k l h : Nat) : Option Nat → Option AObj → Option AV
 | some m, some (.blk _ _ (.opn lo _ _) _) => (@Bool.rec (fun _ => _) (none) (some (.sl b ((@Bool.rec (fun _ => _) (off + l * es) (off) (Nat.beq m l))) (h - l) (.fix (m - l)))) (Nat.ble l h && Nat.ble h m && Nat.ble (k + m) lo))
 | none, some (.blk _ _ (.opn lo hi _) _) => (@Bool.rec (fun _ => _) (Zn7 es b off k l h lo) (some (.sl b off 0 (.fix 0))) (ZoE hi (k + l) && Nat.beq h l && Nat.ble (k + l) lo))
 | _, _ => none
def Zrd (H : AHeap) (b off len : Nat) (l : Nat) (h m : Option Nat) : Option TyI → Cap → Option AV
 | some ei, .fix c => ZmO ei.size b off c l (h.getD len) (m.getD c)
 | some ei, .opn k => ZoF ei.size b off k l (h.getD len) m (H.objs.get b)
 | none, _ => none
def ZoG (b off n : Nat) (l : Nat) (h m : Option Nat) : Option TyI → Option AV
 | some ei => ZmO ei.size b off n l (h.getD n) (m.getD n)
 | none => none
def ZkR (X : XP) (H : AHeap) (l : Nat) (h m : Option Nat) : TK → AV → Option AV
 | .str, .str s => Zp1 s l h m
 | .slice e, .nils => (@Bool.rec (fun _ => _) (none) (some .nils) (Nat.beq l 0 && Nat.beq (h.getD 0) 0 && Nat.beq (m.getD 0) 0 && (X.tys.get e).isSome))
 | .slice e, .sl b off len cap => Zrd H b off len l h m (X.tys.get e) cap
 | .arr n e, .ptr b off => ZoG b off n l h m (X.tys.get e)
 | _, _ => none
def ZkS (X : XP) (H : AHeap) (x : AV) : Option TyI → Option (Option Nat) → Option (Option Nat) → Option (Option Nat) → Option AV
 | some ti, some l, some h, some m => (@Bool.rec (fun _ => _) (none) (ZkR X H (l.getD 0) h m ti.k x) (m.isNone || h.isSome))
 | _, _, _, _ => none
def ZkT (X : XP) (ev : Operand → Option AV) (H : AHeap) (t : Nat) (x : AV) (lo hi mx : Option Operand) : Option AV :=
 ZkS X H x (X.tys.get t) (ZcH ev lo) (ZcH ev hi) (ZcH ev mx)
def Zfb (place : Nat → Option (Nat × Nat)) (cells : Tr AV) : List (Nat × AV) → Option (Tr AV)
 | [] => some cells
 | (i, v) :: rest => match place i with
  | none => none
  | some (off, size) => (@Bool.rec (fun _ => _) (none) (Zfb place (cells.put off v.cells) rest) (Nat.beq v.cells.length size && v.noSym))
def Za1 (ev : Operand → Option AV) : List (Nat × Operand) → Option (List (Nat × AV))
 | [] => some []
 | (i, x) :: r => match ev x with
  | none => none
  | some v => match Za1 ev r with
   | none => none
   | some vs => some ((i, v) :: vs)
def zeros (z : List AV) : Nat → List AV
 | 0 => []
 | n + 1 => z ++ zeros z n
def Zp2 : AV → List AV → Option AV
 | v, [] => some v
 | .int k x, .int k' y :: r => (@Bool.rec (fun _ => _) (none) (Zp2 (.int k ((@Bool.rec (fun _ => _) (x) (y) (iLt y x)))) r) (kEq k k'))
 | _, _ => none
def Zp3 : AV → List AV → Option AV
 | v, [] => some v
 | .int k x, .int k' y :: r => (@Bool.rec (fun _ => _) (none) (Zp3 (.int k ((@Bool.rec (fun _ => _) (x) (y) (iLt x y)))) r) (kEq k k'))
 | _, _ => none
def ZkU (ev : Operand → Option AV) (a b : Operand) : Option AV → Option AV
 | some (.bool true) => ev a
 | some (.bool false) => ev b
 | _ => none
def ZkV (X : XP) (H : AHeap) (t : TypeId) : Option AV → Option AV
 | some (.ptr b off) => ZmN X H t b off
 | _ => none
def ZbY : Option AV → Option AV
 | some (.ptr b off) => some (.ptr b off)
 | some (.fn f a b) => some (.fn f a b)
 | some (.yld l) => some (.yld l)
 | _ => none
def Zrn (X : XP) (op : BinOp) (t : TypeId) : Option AV → Option AV → Option AV
 | some a, some b => Zrm X op t a b
 | _, _ => none
def qUn (op : UnOp) : Option AV → Option AV
 | some a => unA op a
 | none => none
def ZkW (n : Int) : TK → Option AV
 | .int k => some (.int k (Zes k n))
 | _ => none
def isByte : Option TyI → Bool
 | some { k := .int .u8, .. } => true
 | _ => false
def ZgB (H : AHeap) (b off len : Nat) : Option AV :=
 match ZaM H b off len with
 | some cs => (ZaY cs).map .str
 | none => none
def ZgC (X : XP) (H : AHeap) : TK → TK → AV → Option AV
 | .str, .str, .str l => some (.str l)
 | .slice e, .str, .nils => (@Bool.rec (fun _ => _) (none) (some (.str [])) (isByte (X.tys.get e)))
 | .slice e, .str, .sl b off len _ => (@Bool.rec (fun _ => _) (none) (ZgB H b off len) (isByte (X.tys.get e)))
 | _, _, _ => none
def ZgD (X : XP) (H : AHeap) (si di : TyI) : AV → Option AV
 | .int _ n => ZkW n di.k
 | v => ZgC X H si.k di.k v
def Zcv (X : XP) (H : AHeap) : Option TyI → Option TyI → Option AV → Option AV
 | some si, some di, some v => ZgD X H si di v
 | _, _, _ => none
def Zdz : TK → Bool
 | .iface | .other => false
 | _ => true
def ZgE (t : TypeId) : Option TyI → Option AV → Option AV
 | some ti, some v => (@Bool.rec (fun _ => _) (none) (some (.ifc t v)) (Zdz ti.k))
 | _, _ => none
def Zp4 (f : FuncId) : Option (List AV) → Option (List AV) → Option AV
 | some a, some b => some (.fn f a b)
 | _, _ => none
def ZoH (size : Nat) : Option FldI → Option (Nat × Nat)
 | some f => (@Bool.rec (fun _ => _) (none) (some (f.off, f.size)) (Nat.ble (f.off + f.size) size))
 | none => none
def ZiR (size : Nat) (fs : List FldI) (i : Nat) : Option (Nat × Nat) := ZoH size fs[i]?
def Zc7 (es size : Nat) (i : Nat) : Option (Nat × Nat) :=
 (@Bool.rec (fun _ => _) (none) (some (i * es, es)) (Nat.ble ((i + 1) * es) size))
def ZgF (size : Nat) : Option (Tr AV) → Option AV
 | some c => (c.take 0 size).map .agg
 | none => none
def ZgG (ti : TyI) (ps : List (Nat × AV)) : Option TyI → Option AV
 | some ei => ZgF ti.size (Zfb (Zc7 ei.size ti.size) (Tr.put .nil 0 ti.zero) ps)
 | none => none
def ZkX (X : XP) (ti : TyI) (ps : List (Nat × AV)) : TK → Option AV
 | .struct fs => ZgF ti.size (Zfb (ZiR ti.size fs) (Tr.put .nil 0 ti.zero) ps)
 | .arr _ e => ZgG ti ps (X.tys.get e)
 | _ => none
def ZgH (X : XP) : Option TyI → Option (List (Nat × AV)) → Option AV
 | some ti, some ps => ZkX X ti ps ti.k
 | _, _ => none
def ZcP (b off : Nat) : Option FldI → Option AV
 | some fi => (@Bool.rec (fun _ => _) (none) (some (.ptr b (off + fi.off))) (Nat.blt 0 fi.size))
 | none => none
def Zet (b off f : Nat) : TK → Option AV
 | .struct fs => ZcP b off fs[f]?
 | _ => none
def Zbo (f : Nat) : Option TyI → Option AV → Option AV
 | some ti, some (.ptr b off) => Zet b off f ti.k
 | _, _ => none
def ZmP (vs : List AV) (off : Nat) : Option TyI → Option AV
 | some ti => (@Bool.rec (fun _ => _) (vs[off]?) (((@Bool.rec (fun _ => _) (none) (some (.agg ((vs.drop off).take ti.size))) (Nat.ble (off + ti.size) vs.length)))) (ti.isAgg))
 | none => none
def ZhR (X : XP) (vs : List AV) : Option FldI → Option AV
 | some fi => ZmP vs fi.off (X.tys.get fi.ty)
 | none => none
def ZkY (X : XP) (vs : List AV) (f : Nat) : TK → Option AV
 | .struct fs => ZhR X vs fs[f]?
 | _ => none
def Zfh (X : XP) (f : Nat) : Option TyI → Option AV → Option AV
 | some ti, some (.agg vs) => ZkY X vs f ti.k
 | _, _ => none
def ZgI (b off n i : Nat) : Option TyI → Option AV
 | some ei => (@Bool.rec (fun _ => _) (none) (some (.ptr b (off + i * ei.size))) (Nat.blt i n))
 | none => none
def Zeu (X : XP) (i : Nat) : TK → AV → Option AV
 | .arr n e, .ptr b off => ZgI b off n i (X.tys.get e)
 | .slice e, .sl b off len _ => ZgI b off len i (X.tys.get e)
 | _, _ => none
def ZbZ (X : XP) : Option TyI → Option AV → Option AV → Option AV
 | some ti, some v, some (.int _ (.ofNat i)) => Zeu X i ti.k v
 | _, _, _ => none
def ZoI (vs : List AV) (n i : Nat) : Option TyI → Option AV
 | some ei => (@Bool.rec (fun _ => _) (none) (ZmP vs (i * ei.size) (some ei)) (Nat.blt i n))
 | none => none
def ZkZ (X : XP) (i : Nat) : TK → AV → Option AV
 | .str, .str s => (match s[i]? with | some b => some (.int .u8 (.ofNat b)) | none => none)
 | .arr n e, .agg vs => ZoI vs n i (X.tys.get e)
 | _, _ => none
def ZgJ (X : XP) : Option TyI → Option AV → Option AV → Option AV
 | some ti, some v, some (.int _ (.ofNat i)) => ZkZ X i ti.k v
 | _, _, _ => none
def Zc8 (i : Nat) : Option AV → Option AV
 | some (.tup vs) => vs[i]?
 | _ => none
def Zn8 : Option TyI → Option AV
 | some { k := .arr n _, .. } => some (.int .i64 (.ofNat n))
 | _ => none
def Zp5 (X : XP) : TK → AV → Option AV
 | .str, .str s => some (.int .i64 (.ofNat s.length))
 | .arr n _, _ => some (.int .i64 (.ofNat n))
 | .ptr a, _ => Zn8 (X.tys.get a)
 | .slice _, .nils => some (.int .i64 (.ofNat 0))
 | .slice _, .sl _ _ n _ => some (.int .i64 (.ofNat n))
 | _, _ => none
def ty0 (X : XP) (ts : Array TypeId) (i : Nat) : Option TyI :=
 match ts[i]? with
 | some t => X.tys.get t
 | none => none
def Zro (X : XP) : Option TyI → Option (List AV) → Option AV
 | some ti, some [v] => Zp5 X ti.k v
 | _, _ => none
def Zp6 : TK → AV → Option AV
 | .slice _, .nils => some (.int .i64 (.ofNat 0))
 | .slice _, .sl _ _ _ (.fix c) => some (.int .i64 (.ofNat c))
 | .slice _, .sl b _ _ (.opn k) => some (.capOf b k)
 | _, _ => none
def Zrp : Option TyI → Option (List AV) → Option AV
 | some ti, some [v] => Zp6 ti.k v
 | _, _ => none
def ZrN : Option (List AV) → Option AV
 | some (v :: r) => Zp2 v r
 | _ => none
def ZrO : Option (List AV) → Option AV
 | some (v :: r) => Zp3 v r
 | _ => none
def ZiS (X : XP) (ev : Operand → Option AV) (args : Array Operand) (ts : Array TypeId) : Builtin → Option AV
 | .len => Zro X (ty0 X ts 0) (ZbF ev args.toList)
 | .cap => Zrp (ty0 X ts 0) (ZbF ev args.toList)
 | .min => ZrN (ZbF ev args.toList)
 | .max => ZrO (ZbF ev args.toList)
 | _ => none
def ZoJ (X : XP) (ev : Operand → Option AV) (args : Array Operand) (ts : Array TypeId) : Callee → Option AV
 | .builtin b => ZiS X ev args ts b
 | _ => none
def ZgK (ev : Operand → Option AV) (first captured : Array Operand) : Fn → Option AV
 | .func f => Zp4 f (ZbF ev first.toList) (ZbF ev captured.toList)
 | _ => none
def Zk0 (X : XP) (ev : Operand → Option AV) (H : AHeap) (t : TypeId) (lo hi mx : Option Operand) : Option AV → Option AV
 | some v => ZkT X ev H t v lo hi mx
 | none => none
def qop (X : XP) (ev : Operand → Option AV) (H : AHeap) : Op → Option AV
 | .move x => ev x
 | .assign x => ev x
 | .pick c a b => ZkU ev a b (ev c)
 | .load t a => ZkV X H t (ev a)
 | .nilCheck x => ZbY (ev x)
 | .binOp op t x y _ => Zrn X op t (ev x) (ev y)
 | .unOp op _ x => qUn op (ev x)
 | .convert s d x => Zcv X H (X.tys.get s) (X.tys.get d) (ev x)
 | .makeInterface t x => ZgE t (X.tys.get t) (ev x)
 | .makeFunc fn first captured => ZgK ev first captured fn
 | .build t parts => ZgH X (X.tys.get t) (Za1 ev parts.toList)
 | .fieldAddr s x f => Zbo f (X.tys.get s) (ev x)
 | .field s x f => Zfh X f (X.tys.get s) (ev x)
 | .indexAddr t x ix => ZbZ X (X.tys.get t) (ev x) (ev ix)
 | .index t x ix => ZgJ X (X.tys.get t) (ev x) (ev ix)
 | .slice t x lo hi mx => Zk0 X ev H t lo hi mx (ev x)
 | .extract x i => Zc8 i (ev x)
 | .call c => ZoJ X ev c.args c.argTypes c.callee
 | _ => none
def ZhS (nid t : Nat) : Option TyI → Option (AV × AObj)
 | some ti => some (.ptr nid 0, .blk t false (.fix ti.size) (Tr.put .nil 0 ti.zero))
 | none => none
def ZoK (nid t : Nat) : Option AV → Option (AV × AObj)
 | some v => (@Bool.rec (fun _ => _) (none) (some (.ptr nid 0, .blk t false (.fix v.cells.length) (Tr.put .nil 0 v.cells))) (v.cells.all AV.isCell))
 | none => none
def ZfR (nid e len es : Nat) : Option (Tr AV) → Option (AV × AObj)
 | some c => some (.sl nid 0 len (.fix len), .blk e false (.fix (len * es)) c)
 | none => none
def ZfS (nid e len : Nat) (ps : List (Nat × AV)) : Option TyI → Option (AV × AObj)
 | some ei => (@Bool.rec (fun _ => _) (none) (ZfR nid e len ei.size (Zfb (Zc7 ei.size (len * ei.size)) (Tr.put .nil 0 (zeros ei.zero len)) ps)) (Nat.ble (len * ei.size) 16777216 && ps.all (fun p => p.2.cells.all AV.isCell)))
 | none => none
def Zk1 (X : XP) (nid len : Nat) : Option TyI → Option (List (Nat × AV)) → Option (AV × AObj)
 | some { k := .slice e, .. }, some ps => ZfS nid e len ps (X.tys.get e)
 | _, _ => none
def ZhT (nid e l c : Nat) : Option TyI → Option (AV × AObj)
 | some ei => (@Bool.rec (fun _ => _) (none) (some (.sl nid 0 l (.fix c), .blk e false (.fix (c * ei.size)) (Tr.put .nil 0 (zeros ei.zero c)))) (Nat.ble l c && Nat.blt c 1048576 && Nat.ble ei.bytes 1048576 && Nat.blt 0 ei.size))
 | none => none
def Zn9 (X : XP) (nid : Nat) : Option TyI → Option AV → Option AV → Option (AV × AObj)
 | some { k := .slice e, .. }, some (.int _ (.ofNat l)), some (.int _ (.ofNat c)) => ZhT nid e l c (X.tys.get e)
 | _, _, _ => none
def Zk2 (nid : Nat) : Option TyI → Option AV → Option (AV × AObj)
 | some { k := .str, .. }, some (.str s) => some (.ptr nid 0, .siter s 0)
 | _, _ => none
def ZcQ (X : XP) (ev : Operand → Option AV) (nid : Nat) : Op → Option (AV × AObj)
 | .alloc t => ZhS nid t (X.tys.get t)
 | .box t x => ZoK nid t (ev x)
 | .buildSlice t len parts => Zk1 X nid len (X.tys.get t) (Za1 ev parts.toList)
 | .makeSlice t l c => Zn9 X nid (X.tys.get t) (ev l) (ev c)
 | .range t x => Zk2 nid (X.tys.get t) (ev x)
 | _ => none
def Zcw (H : AHeap) (es n : Nat) : AV → Option (List AV)
 | .nils => (@Bool.rec (fun _ => _) (none) (some []) (Nat.beq n 0))
 | .sl b off _ _ => ZaM H b off (n * es)
 | .str s => (@Bool.rec (fun _ => _) (none) (some ((s.take n).map fun b => .int .u8 (.ofNat b))) (Nat.beq es 1))
 | _ => none
def ZfT : AV → Option Nat
 | .nils => some 0
 | .sl _ _ n _ => some n
 | .str s => some s.length
 | _ => none
def ZcR (H : AHeap) (nid : Nat) (e : TypeId) (es need : Nat) (all : List AV) : Option (AV × AHeap) :=
 (@Bool.rec (fun _ => _) (none) (some (.sl nid 0 need (.opn 0), H.set nid (some (.blk e false (.opn need none es) (Tr.put .nil 0 all))))) (all.all AV.isCell))
def ZgL (b off need : Nat) (cap : Cap) : Option AHeap → Option (AV × AHeap)
 | some H' => some (.sl b off need cap, H')
 | none => none
def Zk3 (H : AHeap) (nid : Nat) (e : TypeId) (es need : Nat) (xs : List AV) : Option (List AV) → Option (AV × AHeap)
 | some old => ZcR H nid e es need (old ++ xs)
 | none => none
def Zp7 (H : AHeap) (nid : Nat) (e : TypeId) (es n : Nat) (xs : List AV) (b off len c : Nat) : Option (AV × AHeap) :=
 (@Bool.rec (fun _ => _) (Zk3 H nid e es (len + n) xs (ZaM H b off (len * es))) (ZgL b off (len + n) (.fix c) (putCells H b (off + len * es) xs)) (Nat.ble (len + n) c))
def ZfU (H : AHeap) (nid : Nat) (e el : TypeId) (es es' need : Nat) (xs : List AV) (b off k : Nat) : Option Nat → Option (List AV) → Option (AV × AHeap)
 | some h, some old => (@Bool.rec (fun _ => _) (none) (ZcR H nid e es need (old ++ xs)) (Nat.ble h (k + need) && Nat.blt 0 need))
 | none, some old => (@Bool.rec (fun _ => _) (none) (ZcR (H.set b none) nid e es need (old ++ xs)) (Nat.beq off 0 && Nat.beq k 0 && Nat.beq es' es && Nat.beq el e))
 | _, none => none
def Zp8 (H : AHeap) (nid : Nat) (e : TypeId) (es n : Nat) (xs : List AV) (b off len k : Nat) : Option AObj → Option (AV × AHeap)
 | some (.blk el false (.opn lo hi es') _) =>
  (@Bool.rec (fun _ => _) (ZfU H nid e el es es' (len + n) xs b off k hi (ZaM H b off (len * es))) (ZgL b off (len + n) (.opn k) (putCells H b (off + len * es) xs)) (Nat.ble (k + (len + n)) lo))
 | _ => none
def ZfV (H : AHeap) (nid : Nat) (e : TypeId) (es n : Nat) (xs : List AV) : AV → Option (AV × AHeap)
 | .nils => (@Bool.rec (fun _ => _) (ZcR H nid e es n xs) (some (.nils, H)) (Nat.beq n 0))
 | .sl b off len (.fix c) => Zp7 H nid e es n xs b off len c
 | .sl b off len (.opn k) => Zp8 H nid e es n xs b off len k (H.objs.get b)
 | _ => none
def Zoa (X : XP) (H : AHeap) (t : TypeId) : Option AV → Option AV → Option (AV × AHeap)
 | some (.ptr b off), some v => (match ZiN X H t b off v with | some H' => some (.undef, H') | none => none)
 | _, _ => none
def Zk4 (H : AHeap) (r pos : Nat) (s : List Nat) : Option Nat → Option (AV × AHeap)
 | some c => (@Bool.rec (fun _ => _) (none) (some (.tup [.bool true, .int .i64 (.ofNat pos), .int .i32 (.ofNat c)], H.set r (some (.siter s (pos + 1))))) (Nat.blt c 128))
 | none => some (.tup [.bool false], H)
def Zob (H : AHeap) (r : Nat) : Option AObj → Option (AV × AHeap)
 | some (.siter s pos) => Zk4 H r pos s s[pos]?
 | _ => none
def ZmQ (H : AHeap) : Option AV → Option (AV × AHeap)
 | some (.ptr r 0) => Zob H r (H.objs.get r)
 | _ => none
def ZoL (ei : TyI) (n : Nat) : Option Nat → Bool
 | some l => Nat.blt (l + n) 1048576 && Nat.ble ei.bytes 1048576 && Nat.blt 0 ei.size
 | none => false
def ZdY (H : AHeap) (nid : Nat) (e : TypeId) (ei : TyI) (s : AV) : AV → Option (AV × AHeap)
 | .int _ (.ofNat n) => (@Bool.rec (fun _ => _) (none) (ZfV H nid e ei.size n (zeros ei.zero n) s) (ZoL ei n (ZfT s)))
 | _ => none
def Zcg (H : AHeap) (nid : Nat) (e : TypeId) (ei : TyI) (s : AV) (n : Nat) : Option (List AV) → Option (AV × AHeap)
 | some xs => (@Bool.rec (fun _ => _) (none) (ZfV H nid e ei.size n xs s) (ZoL ei n (ZfT s)))
 | none => none
def Zcx (H : AHeap) (nid : Nat) (e : TypeId) (ei : TyI) (s x : AV) : Option Nat → Option (AV × AHeap)
 | some n => Zcg H nid e ei s n (Zcw H ei.size n x)
 | none => none
def ZfW (H : AHeap) (nid : Nat) (e : TypeId) (s x : AV) : Option TyI → TK → Option (AV × AHeap)
 | some ei, .int _ => ZdY H nid e ei s x
 | some ei, .slice _ => Zcx H nid e ei s x (ZfT x)
 | some ei, .str => Zcx H nid e ei s x (ZfT x)
 | _, _ => none
def ZiT (X : XP) (H : AHeap) (nid : Nat) (s x : AV) (ui : TyI) : TK → Option (AV × AHeap)
 | .slice e => ZfW H nid e s x (X.tys.get e) ui.k
 | _ => none
def ZhU (X : XP) (H : AHeap) (nid : Nat) : Option TyI → Option TyI → Option (List AV) → Option (AV × AHeap)
 | some ti, some ui, some [s, x] => ZiT X H nid s x ui ti.k
 | _, _, _ => none
def Zk5 (H : AHeap) (b off n : Nat) : Option (List AV) → Option (AV × AHeap)
 | some xs => (match putCells H b off xs with | some H' => some (.int .i64 (.ofNat n), H') | none => none)
 | none => none
def Zoc (H : AHeap) (s : AV) : Option TyI → Option Nat → AV → Option (AV × AHeap)
 | some _, some _, .nils => some (.int .i64 (.ofNat 0), H)
 | some ei, some ns, .sl b off nd _ => Zk5 H b off (Nat.min ns nd) (Zcw H ei.size (Nat.min ns nd) s)
 | _, _, _ => none
def Zod (X : XP) (H : AHeap) (d s : AV) : TK → Option (AV × AHeap)
 | .slice e => Zoc H s (X.tys.get e) (ZfT s) d
 | _ => none
def ZoM (X : XP) (H : AHeap) : Option TyI → Option (List AV) → Option (AV × AHeap)
 | some ti, some [d, s] => Zod X H d s ti.k
 | _, _ => none
def Zk6 (H : AHeap) : Option TyI → AV → Option (AV × AHeap)
 | some _, .nils => some (.undef, H)
 | some ei, .sl b off n _ => (match putCells H b off (zeros ei.zero n) with | some H' => some (.undef, H') | none => none)
 | _, _ => none
def Zk7 (X : XP) (H : AHeap) (d : AV) : TK → Option (AV × AHeap)
 | .slice e => Zk6 H (X.tys.get e) d
 | _ => none
def Zk8 (X : XP) (H : AHeap) : Option TyI → Option (List AV) → Option (AV × AHeap)
 | some ti, some [d] => Zk7 X H d ti.k
 | _, _ => none
def ZiU (X : XP) (ev : Operand → Option AV) (nid : Nat) (H : AHeap) (args : Array Operand) (ts : Array TypeId) : Builtin → Option (AV × AHeap)
 | .append => ZhU X H nid (ty0 X ts 0) (ty0 X ts 1) (ZbF ev args.toList)
 | .copy => ZoM X H (ty0 X ts 0) (ZbF ev args.toList)
 | .clear => Zk8 X H (ty0 X ts 0) (ZbF ev args.toList)
 | _ => none
def ZoN (X : XP) (ev : Operand → Option AV) (nid : Nat) (H : AHeap) (args : Array Operand) (ts : Array TypeId) : Callee → Option (AV × AHeap)
 | .builtin b => ZiU X ev nid H args ts b
 | _ => none
def wop (X : XP) (ev : Operand → Option AV) (nid : Nat) (H : AHeap) : Op → Option (AV × AHeap)
 | .store t a x => Zoa X H t (ev a) (ev x)
 | .next it true => ZmQ H (ev it)
 | .call c => ZoN X ev nid H c.args c.argTypes c.callee
 | _ => none
def Zp9 : Builtin → Nat
 | .append | .copy | .clear => 2
 | _ => 0
def Zqa : Callee → Nat
 | .builtin b => Zp9 b
 | _ => 3
def ZhV : Op → Nat
 | .alloc _ | .box .. | .buildSlice .. | .makeSlice .. | .range .. => 1
 | .store .. | .next .. => 2
 | .call c => Zqa c.callee
 | _ => 0
def Zqb (H : AHeap) (n b k : Nat) : Option AObj → Option (List (AV × AHeap))
 | some (.blk el false (.opn lo hi es) cells) => (@Bool.rec (fun _ => _) (none) (some [(.bool true, H.set b (some (.blk el false (.opn lo (some (n + k)) es) cells))), (.bool false, H.set b (some (.blk el false (.opn (Nat.max lo (n + k)) hi es) cells)))]) (Nat.ble k lo))
 | _ => none
def Zqc (H : AHeap) : Option AV → Option AV → Option (List (AV × AHeap))
 | some (.int .i64 (.ofNat n)), some (.capOf b k) => Zqb H n b k (H.objs.get b)
 | _, _ => none
def ZiV (H : AHeap) (b off k l es : Nat) : Option AObj → Option (List (AV × AHeap))
 | some (.blk el false (.opn low none es') cells) =>
  (@Bool.rec (fun _ => _) (none) (some [(.sl b (off + l * es) 0 (.opn (k + l)), H.set b (some (.blk el false (.opn (low + 1) none es') cells))), (.sl b off 0 (.fix 0), H.set b (some (.blk el false (.opn low (some (low + 1)) es') cells)))]) (Nat.beq (k + l) low))
 | _ => none
def ZfX (H : AHeap) (b off len k l : Nat) : Option TyI → Option (List (AV × AHeap))
 | some ei => (@Bool.rec (fun _ => _) (none) (ZiV H b off k l ei.size (H.objs.get b)) (Nat.beq l len))
 | none => none
def ZiW (X : XP) (H : AHeap) (l : Option Nat) : TK → AV → Option (List (AV × AHeap))
 | .slice e, .sl b off len (.opn k) => ZfX H b off len k (l.getD 0) (X.tys.get e)
 | _, _ => none
def Zk9 (X : XP) (H : AHeap) : Option TyI → Option AV → Option (Option Nat) → Option (List (AV × AHeap))
 | some ti, some v, some l => ZiW X H l ti.k v
 | _, _, _ => none
def ZiX (X : XP) (ev : Operand → Option AV) (H : AHeap) : Op → Option (List (AV × AHeap))
 | .binOp .gtr _ x y _ => Zqc H (ev x) (ev y)
 | .slice t x lo none none => Zk9 X H (X.tys.get t) (ev x) (ZcH ev lo)
 | _ => none
def Cap.same : Cap → Cap → Bool
 | .fix a, .fix b => Nat.beq a b
 | .opn a, .opn b => Nat.beq a b
 | _, _ => false
mutual
def AV.same : AV → AV → Bool
 | .undef, .undef => true
 | .bool a, .bool b => a == b
 | .int k a, .int l b => kEq k l && iEq a b
 | .str a, .str b => ZcO a b
 | .nilp, .nilp | .nils, .nils | .nilm, .nilm | .nilf, .nilf | .nili, .nili => true
 | .ptr a b, .ptr c d => Nat.beq a c && Nat.beq b d
 | .sl a b c d, .sl e f g h => Nat.beq a e && Nat.beq b f && Nat.beq c g && d.same h
 | .fn f a b, .fn g c d => Nat.beq f g && AV.sames a c && AV.sames b d
 | .yld a, .yld b => Nat.beq a b
 | .ifc t a, .ifc u b => Nat.beq t u && a.same b
 | .agg a, .agg b => AV.sames a b
 | .tup a, .tup b => AV.sames a b
 | .capOf a b, .capOf c d => Nat.beq a c && Nat.beq b d
 | .sym a, .sym b => Nat.beq a b
 | _, _ => false
def AV.sames : List AV → List AV → Bool
 | [], [] => true
 | a :: x, b :: y => a.same b && AV.sames x y
 | _, _ => false
end
def ZfY {α : Type} (f : α → α → Bool) : Option α → Option α → Bool
 | none, none => true
 | some a, some b => f a b
 | _, _ => false
def Zoe {α : Type} (f : α → α → Bool) : Option α → Option α → Bool
 | none, _ => true
 | some a, some b => f a b
 | _, _ => false
def Tr.isEmpty {α : Type} : Tr α → Bool
 | .nil => true
 | .node v l r => v.isNone && l.isEmpty && r.isEmpty
def Tr.sub {α : Type} (f : α → α → Bool) : Tr α → Tr α → Bool
 | .nil, _ => true
 | .node v l r, .nil => (Tr.node v l r).isEmpty
 | .node v l r, .node v' l' r' => Zoe f v v' && l.sub f l' && r.sub f r'
def ZfZ : List Nat → List Nat → Bool := ZcO
def Sz.same : Sz → Sz → Bool
 | .fix a, .fix b => Nat.beq a b
 | .opn a b c, .opn d e f => Nat.beq a d && ZfY Nat.beq b e && Nat.beq c f
 | _, _ => false
def XE.same : XE → XE → Bool
 | .normal, .normal | .ret, .ret => true
 | .exit a, .exit b => Nat.beq a b
 | _, _ => false
def Fr.sub (a b : Fr) : Bool := a.tm.sub AV.same b.tm && b.tm.sub AV.same a.tm && Nat.beq a.n b.n && ZfZ a.defs b.defs
def AObj.sub : AObj → AObj → Bool
 | .blk e r s c, .blk e' r' s' c' => Nat.beq e e' && r == r' && s.same s' && c.sub AV.same c'
 | .loop s p f fr ps d, .loop s' p' f' fr' ps' d' => s == s' && ZfY XE.same p p' && Nat.beq f f' && fr.sub fr' && ZfZ ps ps' && Nat.beq d d'
 | .defr a, .defr b => a == b
 | .siter s p, .siter s' p' => ZcO s s' && Nat.beq p p'
 | _, _ => false
structure Rec where
 code : Option Nat → FuncId → List (Nat × Code × Code) → Fr → AHeap → Code → Option (List (XE × Fr × AHeap))
 call : List (Nat × Code × Code) → AV → List AV → AHeap → Option (List (AV × AHeap))
def Zla {α β : Type} (f : α → Option (List β)) : List α → Option (List β)
 | [] => some []
 | x :: xs => match f x with
  | none => none
  | some ys => match Zla f xs with
   | none => none
   | some zs => some (ys ++ zs)
def Fr.put : Fr → Option Tmp → AV → Fr
 | ⟨tm, n, ds⟩, some d, v => (@Bool.rec (fun _ => _) (⟨tm, n, ds⟩) (⟨tm.set d (some v), n, ds⟩) (Nat.blt d n))
 | fr, none, _ => fr
def Zf0 (want : Bool) : Option AV → Option Bool
 | some (.bool b) => some (b == want)
 | some (.sym _) => none
 | _ => some false
def ZdA (tm : Tr AV) (want : Bool) : Option Oper → Option Bool
 | some { dst := some d, .. } => Zf0 want (tm.get d)
 | _ => some false
def ZcS (ops : List Oper) (tm : Tr AV) : Option (Nat × Bool) → Option Bool
 | none => some true
 | some (j, want) => ZdA tm want ops[j]?
def ZpV {α β : Type} (f : α → β) : Option α → Option (List β)
 | some x => some [f x]
 | none => none
def Zqd (H : AHeap) (p : AV × AObj) : AV × AHeap := (p.1, H.new p.2)
def Zlb (H : AHeap) (k : Option (List (AV × AHeap))) : Option AV → Option (List (AV × AHeap))
 | some v => some [(v, H)]
 | none => k
def ZiY (R : Rec) (L : List (Nat × Code × Code)) (H : AHeap) : Option AV → Option (List AV) → Option (List (AV × AHeap))
 | some fv, some vs => R.call L fv vs H
 | _, _ => none
def Zlc (R : Rec) (L : List (Nat × Code × Code)) (ev : Operand → Option AV) (H : AHeap) (args : Array Operand) : Callee → Option (List (AV × AHeap))
 | .value f => ZiY R L H (ev f) (ZbF ev args.toList)
 | _ => none
def Zof (R : Rec) (L : List (Nat × Code × Code)) (ev : Operand → Option AV) (H : AHeap) : Op → Option (List (AV × AHeap))
 | .call c => Zlc R L ev H c.args c.callee
 | _ => none
def bump : AHeap → AHeap
 | ⟨n, o⟩ => ⟨n + 1, o⟩
def ZgM (X : XP) (R : Rec) (L : List (Nat × Code × Code)) (ev : Operand → Option AV) (H : AHeap) (op : Op) : Nat → Option (List (AV × AHeap))
 | 0 => Zlb H (ZiX X ev H op) (qop X ev H op)
 | 1 => ZpV (Zqd H) (ZcQ X ev H.next op)
 | 2 => ZpV id (wop X ev H.next (bump H) op)
 | _ => Zof R L ev H op
def Zqe (X : XP) (R : Rec) (L : List (Nat × Code × Code)) (fr : Fr) (H : AHeap) (o : Oper) : Option (List (AV × AHeap)) :=
 ZgM X R L (Zdy X fr.tm) H o.op (ZhV o.op)
def Zbj {α β : Type} (f : α → Option (List β)) : Option (List α) → Option (List β)
 | some [x] => f x
 | some l => Zla f l
 | none => none
def Zfi (X : XP) (R : Rec) (L : List (Nat × Code × Code)) (all : List Oper) : List Oper → Fr → AHeap → Option (List (XE × Fr × AHeap))
 | [], fr, H => some [(.normal, fr, H)]
 | o :: os, fr, H => match ZcS all fr.tm o.guard with
  | none => none
  | some false => Zfi X R L all os (fr.put o.dst .undef) H
  | some true => Zbj (fun p => Zfi X R L all os (fr.put o.dst p.1) p.2) (Zqe X R L fr H o)
def ZjH : Nat → List AV → Tr AV → Tr AV
 | _, [], t => t
 | n, v :: vs, t => ZjH (n + 1) vs (t.set n (some v))
def Zf1 (X : XP) (fr : Fr) (H : AHeap) : ResultVar → Option AV
 | .tmp t => match fr.tm.get t with | some v => some v | none => some .undef
 | .cell a t => match fr.tm.get a with
  | some (.ptr b off) => ZmN X H t b off
  | _ => none
def ZbH (X : XP) (fr : Fr) (H : AHeap) : List ResultVar → Option (List AV)
 | [] => some []
 | r :: rs => match Zf1 X fr H r with
  | none => none
  | some v => match ZbH X fr H rs with
   | none => none
   | some vs => some (v :: vs)
def Zb5 : List Nat → AHeap → Option AHeap
 | [], H => some H
 | d :: ds, H => match H.objs.get d with
  | some (.defr true) => Zb5 ds (H.set d none)
  | _ => none
def Zeg (H : AHeap) : Option (List AV) → Option (List (AV × AHeap))
 | some [v] => some [(v, H)]
 | some vs => some [(.tup vs, H)]
 | none => none
def Zeh (X : XP) (fn : Func) (fr : Fr) : Option AHeap → Option (List (AV × AHeap))
 | some H => Zeg H (ZbH X fr H fn.results.toList)
 | none => none
def Zld (X : XP) (fn : Func) : XE × Fr × AHeap → Option (List (AV × AHeap))
 | (.exit _, _, _) => none
 | (_, fr, H) => Zeh X fn fr (Zb5 fr.defs H)
def ZjI (c : Nat) : Nat → List Nat → Option Nat
 | _, [] => none
 | i, b :: s => (@Bool.rec (fun _ => _) (ZjI c (i + 1) s) (some i) (Nat.beq b c))
def Zog : Option AObj → Option AObj → Option AV
 | some (.blk _ false _ _), some (.blk _ false _ _) => some (.bool false)
 | _, _ => none
def Zqf : Option Nat → AV
 | some i => .int .i64 (.ofNat i)
 | none => .int .i64 (-1)
def ZiZ (H : AHeap) (es b off n c off' n' : Nat) : Option AV :=
 (@Bool.rec (fun _ => _) ((@Bool.rec (fun _ => _) (Zog (H.objs.get b) (H.objs.get c)) (some (.bool (Nat.blt off (off' + n' * es) && Nat.blt off' (off + n * es)))) (Nat.beq b c))) (some (.bool false)) (Nat.beq n 0 || Nat.beq n' 0 || Nat.beq es 0))
def Zrq (H : AHeap) : Ext → List AV → Option AV
 | .indexByte, [.str s, .int .u8 (.ofNat c)] => (@Bool.rec (fun _ => _) (none) (some (Zqf (ZjI c 0 s))) (Nat.blt c 256))
 | .overlaps es, [.sl b off n _, .sl c off' n' _] => ZiZ H es b off n c off' n'
 | _, _ => none
def Zc9 (objs : Tr AObj) : List AV → Tr AObj
 | [] => objs
 | .sl b _ _ _ :: vs => Zc9 (objs.set b none) vs
 | _ :: vs => Zc9 objs vs
def Zei (lo : Nat) : Nat → Tr AObj → Tr AObj
 | 0, t => t
 | n + 1, t => Zei lo n (t.set (lo + n) none)
def Zle (n0 N : Nat) (args : List AV) (H : AHeap) (b : Nat) (o : AObj) : Tr AObj := (Zei n0 (H.next - n0) ((Zc9 H.objs args).set b none)).set N (some o)
def Zqg (n0 N : Nat) (args : List AV) (H : AHeap) (b off len : Nat) : Cap → Option AObj → Option (AV × AHeap)
 | .opn k, some (.blk el false (.opn lo _ es) cells) => (@Bool.rec (fun _ => _) (none) (some (.sl N off len (.opn k), ⟨N + 1, Zle n0 N args H b (.blk el false (.opn (k + len) none es) cells)⟩)) (Nat.ble (k + len) lo))
 | _, _ => none
def Zcy (n0 N : Nat) (args : List AV) : AV × AHeap → Option (AV × AHeap)
 | (.sl b off len cap, H) => Zqg n0 N args H b off len cap (H.objs.get b)
 | _ => none
def ZdB : List (AV × AHeap) → Nat
 | [] => 0
 | (_, H) :: r => Nat.max H.next (ZdB r)
def Zda (n0 N : Nat) (args : List AV) (v : AV) (H : AHeap) : List (AV × AHeap) → Bool
 | [] => true
 | o :: r => (match Zcy n0 N args o with
  | some p => v.same p.1 && Nat.beq H.next p.2.next && H.objs.sub AObj.sub p.2.objs && Zda n0 N args v H r
  | none => false)
def ZgN (n0 N : Nat) (args : List AV) (outs r : List (AV × AHeap)) : Option (AV × AHeap) → List (AV × AHeap)
 | some p => (@Bool.rec (fun _ => _) (outs) ([p]) (Zda n0 N args p.1 p.2 r))
 | none => outs
def Zev (n0 : Nat) (args : List AV) : List (AV × AHeap) → List (AV × AHeap)
 | [] => []
 | [o] => [o]
 | o :: o' :: r => ZgN n0 (ZdB (o :: o' :: r)) args (o :: o' :: r) (o' :: r) (Zcy n0 (ZdB (o :: o' :: r)) args o)
def Zbb (n : Nat) : List Tmp → List AV → Tr AV → Option (Tr AV)
 | [], [], t => some t
 | p :: ps, a :: as, t => (@Bool.rec (fun _ => _) (none) (Zbb n ps as (t.set p (some a))) (Nat.blt p n))
 | _, _, _ => none
def Zec : List (Nat × Code × Code) → Nat → Option (Code × Code)
 | [], _ => none
 | (n, c) :: r, l => (@Bool.rec (fun _ => _) (Zec r l) (some c) (Nat.beq n l))
def Zf2 (H : AHeap) (l : Nat) (st : LoopState) (pend : Option XE) : Option AHeap :=
 match H.objs.get l with
 | some (.loop _ _ fn fr ps d) => some (H.set l (some (.loop st pend fn fr ps d)))
 | _ => none
def Zdb (l : Nat) : XE × Fr × AHeap → Option (List (AV × AHeap))
 | (.normal, _, H) => (Zf2 H l .ready none).map fun H' => [(.bool true, H')]
 | (x, _, H) => (Zf2 H l .done (some x)).map fun H' => [(.bool false, H')]
def ZhW (n0 : Nat) (as : List AV) (outs : Option (List (AV × AHeap))) : Option Unit → Option (List (AV × AHeap))
 | none => outs
 | some _ => (match outs with | some r => some (Zev n0 as r) | none => none)
def Zf3 (X : XP) (R : Rec) (L : List (Nat × Code × Code)) (f : FuncId) (fn : Func) (as : List AV) (H : AHeap) (c : Code) : Option (List (AV × AHeap)) :=
 Zbj (Zld X fn) (R.code none f L ⟨ZjH 0 as .nil, Nat.max as.length fn.ntmps, []⟩ H c)
def Zlf (H : AHeap) (as : List AV) : Option Ext → Option (List (AV × AHeap))
 | some x => ZpV (fun v => (v, H)) (Zrq H x as)
 | none => none
def Tr.minus {α : Type} : Tr α → Tr α → Tr α
 | .nil, h => h
 | .node _ _ _, .nil => .nil
 | .node v l r, .node v' l' r' => .node (match v with | some _ => none | none => v') (l.minus l') (r.minus r')
def Tr.plus {α : Type} : Tr α → Tr α → Tr α
 | .nil, h => h
 | .node v l r, .nil => .node v l r
 | .node v l r, .node v' l' r' => .node (match v with | some x => some x | none => v') (l.plus l') (r.plus r')
def Zf4 (pre H : Tr AObj) (p : AV × AHeap) : AV × AHeap := (p.1, ⟨p.2.next, p.2.objs.plus (pre.minus H)⟩)
def ZjJ (args : List AV) (H : AHeap) : List Ent → Option (List (AV × AHeap))
 | [] => none
 | .pure as v :: r => (@Bool.rec (fun _ => _) (ZjJ args H r) (some [(v, H)]) (AV.sames as args))
 | .loc as pre outs :: r => (@Bool.rec (fun _ => _) (ZjJ args H r) (some (outs.map (Zf4 pre.objs H.objs))) (AV.sames as args && Nat.ble H.next pre.next && pre.objs.sub AObj.sub H.objs))
def ZoO (args : List AV) (H : AHeap) : Option (List Ent) → Option (List (AV × AHeap))
 | none => none
 | some es => ZjJ args H es
def ZhX (X : XP) (R : Rec) (L : List (Nat × Code × Code)) (f : FuncId) (fn : Func) (as : List AV) (H : AHeap) : Option Code → Option (List (AV × AHeap))
 | some c => (match ZoO as H (X.memo.get f) with | some outs => some outs | none => ZhW H.next as (Zf3 X R L f fn as H c) (X.mrg.get f))
 | none => Zlf H as (X.ext.get f)
def ZgO (X : XP) (R : Rec) (L : List (Nat × Code × Code)) (f : FuncId) (as : List AV) (H : AHeap) : Option Func → Option (List (AV × AHeap))
 | some fn => ZhX X R L f fn as H fn.body
 | none => none
def Zfj (R : Rec) (L : List (Nat × Code × Code)) (l : Nat) (fn : FuncId) (fr1 : Fr) (H1 : AHeap) (body : Code) : Option AObj → Option (List (AV × AHeap))
 | some (.loop .ready pend fn' fr' ps' d') => Zbj (Zdb l) (R.code (some l) fn L fr1 (H1.set l (some (.loop .busy pend fn' fr' ps' d'))) body)
 | _ => none
def Zdc (R : Rec) (L : List (Nat × Code × Code)) (l : Nat) (fn : FuncId) (body : Code) : XE × Fr × AHeap → Option (List (AV × AHeap))
 | (.normal, fr1, H1) => Zfj R L l fn fr1 H1 body (H1.objs.get l)
 | _ => none
def Zlg (R : Rec) (L : List (Nat × Code × Code)) (l : Nat) (fn : FuncId) (n : Nat) (H : AHeap) (asg body : Code) : Option (Tr AV) → Option (List (AV × AHeap))
 | some tm => Zbj (Zdc R L l fn body) (R.code (some l) fn L ⟨tm, n, []⟩ H asg)
 | none => none
def Zlh (R : Rec) (L : List (Nat × Code × Code)) (l : Nat) (args : List AV) (H : AHeap) : Option AObj → Option (Code × Code) → Option (List (AV × AHeap))
 | some (.loop .ready _ fn fr ps _), some c => Zlg R L l fn fr.n H c.1 c.2 (Zbb fr.n ps args fr.tm)
 | _, _ => none
def Zej (X : XP) (R : Rec) (L : List (Nat × Code × Code)) (fv : AV) (args : List AV) (H : AHeap) : Option (List (AV × AHeap)) :=
 match fv with
 | .fn f first captured => ZgO X R L f (first ++ args ++ captured) H (X.fns.get f)
 | .yld l => Zlh R L l args H (H.objs.get l) (Zec L l)
 | _ => none
def ZdC (f : Fr → AHeap → Option (List (XE × Fr × AHeap))) : List (XE × Fr × AHeap) → Option (List (XE × Fr × AHeap))
 | [] => some []
 | (.normal, fr, H) :: [] => f fr H
 | (.normal, fr, H) :: r => (match f fr H with
  | none => none
  | some ys => match ZdC f r with
   | none => none
   | some zs => some (ys ++ zs))
 | o :: r => match ZdC f r with
  | none => none
  | some zs => some (o :: zs)
def Zf5 (id : Nat) : XE × Fr × AHeap → XE × Fr × AHeap
 | (.exit i, r) => (@Bool.rec (fun _ => _) ((.exit i, r)) ((.normal, r)) (Nat.beq i id))
 | o => o
def Zi0 (l : Nat) (fr : Fr) (H : AHeap) : Option AObj → Option (List (XE × Fr × AHeap))
 | some (.loop .busy _ _ _ _ _) => none
 | some (.loop _ none _ _ _ _) => some [(.normal, fr, H.set l none)]
 | some (.loop _ (some x) _ _ _ _) => some [(x, fr, H.set l none)]
 | _ => none
def Zi1 (l : Nat) (fr : Fr) (p : AV × AHeap) : Option (List (XE × Fr × AHeap)) := Zi0 l fr p.2 (p.2.objs.get l)
def Zch : Option Nat → Nat
 | some m => m
 | none => 0
def ZgP (B : Tr Nat) : List Edge → Nat → Nat
 | [], m => m
 | e :: es, m => (@Bool.rec (fun _ => _) (ZgP B es m) (ZgP B es (Nat.lor (Nat.lor m (Nat.pow 2 e.on)) (Zch (B.get e.on)))) (Region.binds .any e))
def ZhY : Nat → List Oper → Tr Nat → Tr Nat
 | _, [], B => B
 | i, o :: os, B => ZhY (i + 1) os (B.set i (some (ZgP B o.after.toList 0)))
def bit (B : Tr Nat) (i j : Nat) : Bool := Nat.testBit (Zch (B.get i)) j
def ZkO (t : Nat) : List Nat → Bool
 | [] => false
 | u :: us => (@Bool.rec (fun _ => _) (ZkO t us) (true) (Nat.beq t u))
def Zew (X : XP) (tm : Tr AV) (names : List Tmp) : Operand → Option AV
 | .tmp t => (@Bool.rec (fun _ => _) (none) (Zdy X tm (.tmp t)) (ZkO t names))
 | x => Zdy X tm x
def Zex (names : List Tmp) : Option Oper → Bool
 | some { dst := some d, .. } => ZkO d names
 | _ => true
def ZcT (names : List Tmp) (ops : List Oper) (tm : Tr AV) : Option (Nat × Bool) → Option Bool
 | none => some true
 | some (j, want) => (@Bool.rec (fun _ => _) (none) (ZdA tm want ops[j]?) (Zex names ops[j]?))
def Zqh (names : List Tmp) : Option Tmp → Bool
 | some t => ZkO t names
 | none => false
def Zli (B : Tr Nat) (i : Nat) (names : List Tmp) (j : Nat) (d : Option Tmp) : Bool :=
 (@Bool.rec (fun _ => _) (true) (((@Bool.rec (fun _ => _) ((@Bool.rec (fun _ => _) (true) (bit B j i) (Nat.blt i j))) (bit B i j) (Nat.blt j i)))) (Zqh names d))
def Zlj (B : Tr Nat) (i : Nat) (names : List Tmp) : Nat → List Oper → Bool
 | _, [] => true
 | j, p :: ps => Zli B i names j p.dst && Zlj B i names (j + 1) ps
def Zi2 (B : Tr Nat) (all : Array Oper) : Nat → List Oper → Bool
 | _, [] => true
 | i, o :: os => Zlj B i (o.looksAt all) 0 all.toList && Zi2 B all (i + 1) os
def Zi3 (d : Option Tmp) (o : Oper) : Bool :=
 match d, o.dst with
 | some t, some u => !(Nat.beq t u)
 | _, _ => true
def ZmR : List Oper → Bool
 | [] => true
 | o :: os => os.all (Zi3 o.dst) && ZmR os
def ZoP (i : Nat) (o : Oper) : Bool := o.after.toList.all (fun e => (@Bool.rec (fun _ => _) (true) (Nat.blt e.on i) (Region.binds .any e)))
def Zcz : Nat → List Oper → Bool
 | _, [] => true
 | i, o :: os => ZoP i o && Zcz (i + 1) os
def Zdd (all : Array Oper) : Bool :=
 Zi2 (ZhY 0 all.toList .nil) all 0 all.toList && ZmR all.toList && Zcz 0 all.toList
inductive RK where
 | skip
 | pure
 | rd
 | alloc (ob : AObj)
 | act (post : AHeap) (ab : Nat)
structure RRec where
 k : RK
 v : AV
 fr : Fr
inductive RGo where
 | bad
 | need (b : Nat)
 | ok (l : List RRec) (fr : Fr) (H : AHeap)
def Zfk (base : Nat) (m : Nat) : List (Nat × AObj) → Tr AObj → Tr AObj
 | [], t => t
 | (i, ob) :: l, t => (@Bool.rec (fun _ => _) (Zfk base m l t) (Zfk base m l (t.set (base + i) (some ob))) (Nat.testBit m i))
def leftOf (m : Nat) : List (Nat × AObj) → List (Nat × AObj)
 | [] => []
 | (i, ob) :: l => (@Bool.rec (fun _ => _) ((i, ob) :: leftOf m l) (leftOf m l) (Nat.testBit m i))
def Zlk : AHeap := ⟨0, .nil⟩
def ZaS (base m : Nat) (pr : List (Nat × AObj)) : AHeap → AHeap
 | ⟨n, t⟩ => ⟨n, Zfk base m pr t⟩
def Zci (r : RRec) : RGo → RGo
 | .ok l fr H => .ok (r :: l) fr H
 | x => x
def Zfl (base : Nat) : List (Nat × AObj) → Tr AObj → Tr AObj
 | [], t => t
 | (i, ob) :: l, t => Zfl base l (t.set (base + i) (some ob))
def ZgQ (base : Nat) (fr : Fr) (pr : List (Nat × AObj)) : AHeap → RGo
 | ⟨n, t⟩ => .ok [] fr ⟨n, Zfl base pr t⟩
def Zoh : Option AV → RGo
 | some (.sl b _ _ (.opn _)) => .need b
 | _ => .bad
def Zoi (ev : Operand → Option AV) : Op → RGo
 | .slice _ x _ none none => Zoh (ev x)
 | _ => .bad
def goQ (k : RK → AV → RGo) (z : RGo) (q : Option AV) : Option AV → RGo
 | some v => k .pure v
 | none => (match q with | some v => k .rd v | none => z)
def ZrP (k : AV → AObj → RGo) : Option (AV × AObj) → RGo
 | some p => k p.1 p.2
 | none => .bad
def Zqi (k : AV → AHeap → RGo) : Option (List (AV × AHeap)) → RGo
 | some [p] => k p.1 p.2
 | _ => .bad
def Zqj (X : XP) (R : Rec) (L : List (Nat × Code × Code)) (base i m : Nat) (H : AHeap) (pr : List (Nat × AObj)) (ev : Operand → Option AV) (op : Op) (kq : RK → AV → RGo) (kl : AV → AObj → RGo) (ka : AV → AHeap → RGo) : Nat → RGo
 | 0 => goQ kq (Zoi ev op) (qop X ev (ZaS base m pr H) op) (qop X ev Zlk op)
 | 1 => ZrP kl (ZcQ X ev (base + i) op)
 | c + 2 => Zqi ka (ZgM X R L ev (ZaS base m pr H) op (c + 2))
def Zf6 (X : XP) (R : Rec) (L : List (Nat × Code × Code)) (all : Array Oper) (B : Tr Nat) (base : Nat) : List Oper → Nat → Fr → AHeap → List (Nat × AObj) → Nat → Nat → RGo
 | [], _, fr, H, pr, _, _ => ZgQ base fr pr H
 | o :: os, i, fr, H, pr, am, ab =>
  match ZcT (o.looksAt all) all.toList fr.tm o.guard with
  | none => .bad
  | some false => Zci ⟨.skip, .undef, fr⟩ (Zf6 X R L all B base os (i + 1) (fr.put o.dst .undef) H pr am ab)
  | some true => Zqj X R L base i (Zch (B.get i)) H pr (Zew X fr.tm (o.looksAt all)) o.op
   (fun k v => Zci ⟨k, v, fr⟩ (Zf6 X R L all B base os (i + 1) (fr.put o.dst v) H pr am ab))
   (fun v ob => Zci ⟨.alloc ob, v, fr⟩ (Zf6 X R L all B base os (i + 1) (fr.put o.dst v) H (pr ++ [(i, ob)]) am ab))
   (fun v H' => (@Bool.rec (fun _ => _) (.bad) (Zci ⟨.act H' (Nat.lor ab (Zch (B.get i))), v, fr⟩ (Zf6 X R L all B base os (i + 1) (fr.put o.dst v) H' (leftOf (Zch (B.get i)) pr) (Nat.lor am (Nat.pow 2 i)) (Nat.lor ab (Zch (B.get i))))) (Nat.beq (Nat.land am (Zch (B.get i))) am)))
   (ZhV o.op)
def ZbI : Nat → List RRec → List (Nat × Nat × AHeap)
 | _, [] => []
 | i, r :: l => (match r.k with
  | .act post ab => (i, ab, post) :: ZbI (i + 1) l
  | _ => ZbI (i + 1) l)
def Zb6 : Nat → List RRec → List (Nat × AObj)
 | _, [] => []
 | i, r :: l => (match r.k with
  | .alloc ob => (i, ob) :: Zb6 (i + 1) l
  | _ => Zb6 (i + 1) l)
def Zi4 (v : AV) : Option AV → Bool
 | some u => v.same u
 | none => false
def Zll (X : XP) (B : Tr Nat) (base i : Nat) (ev : Operand → Option AV) (op : Op) (v : AV) (als : List (Nat × AObj)) (H : AHeap) (ab : Nat) : List (Nat × Nat × AHeap) → Bool
 | [] => Zi4 v (qop X ev (ZaS base (Zch (B.get i)) (leftOf ab als) H) op)
 | (j, ab', H') :: r => (bit B i j || r.any (fun p => bit B i p.1) || Zi4 v (qop X ev (ZaS base (Zch (B.get i)) (leftOf ab als) H) op)) && (bit B j i || Zll X B base i ev op v als H' ab' r)
def ZrX : RK → Bool
 | .rd => true
 | _ => false
def Zre (X : XP) (all : Array Oper) (B : Tr Nat) (base : Nat) (als : List (Nat × AObj)) (acts : List (Nat × Nat × AHeap)) (H : AHeap) : Nat → List Oper → List RRec → Bool
 | i, o :: os, r :: l => ((@Bool.rec (fun _ => _) (true) (Zll X B base i (Zew X r.fr.tm (o.looksAt all)) o.op r.v als H 0 acts) (ZrX r.k))) && Zre X all B base als acts H (i + 1) os l
 | _, _, _ => true
def ZrQ {α : Type} : Option (List α) → Option (List α) → Option (List α)
 | some a, some b => some (a ++ b)
 | _, _ => none
def Zoj (k : AHeap → Option (List (XE × Fr × AHeap))) (H : AHeap) (b : Nat) : Option AObj → Option (List (XE × Fr × AHeap))
 | some (.blk el false (.opn low none es) cells) => ZrQ (k (H.set b (some (.blk el false (.opn (low + 1) none es) cells)))) (k (H.set b (some (.blk el false (.opn low (some (low + 1)) es) cells))))
 | _ => none
def ZmS (X : XP) (all : Array Oper) (B : Tr Nat) (base : Nat) (H : AHeap) (l : List RRec) : List (Nat × Nat × AHeap) → Bool
 | [] => true
 | p :: r => Zre X all B base (Zb6 0 l) (p :: r) H 0 all.toList l
def Zfm (X : XP) (all : Array Oper) (k : AHeap → Option (List (XE × Fr × AHeap))) (H H1 : AHeap) : RGo → Option (List (XE × Fr × AHeap))
 | .bad => none
 | .need b => Zoj k H b (H.objs.get b)
 | .ok l fr' H' => (@Bool.rec (fun _ => _) (none) (some [(.normal, fr', H')]) (ZmS X all (ZhY 0 all.toList .nil) H.next H1 l (ZbI 0 l)))
def reserve (n : Nat) : AHeap → AHeap
 | ⟨m, o⟩ => ⟨m + n, o⟩
def Zbp (X : XP) (R : Rec) (L : List (Nat × Code × Code)) (ops : Array Oper) (fr : Fr) : Nat → AHeap → Option (List (XE × Fr × AHeap))
 | 0, _ => none
 | n + 1, H => Zfm X ops (Zbp X R L ops fr n) H (reserve ops.size H) (Zf6 X R L ops (ZhY 0 ops.toList .nil) H.next ops.toList 0 fr (reserve ops.size H) [] 0 0)
def Zfn (X : XP) (R : Rec) (L : List (Nat × Code × Code)) (ops : Array Oper) (fr : Fr) (H : AHeap) : Option (List (XE × Fr × AHeap)) :=
 (@Bool.rec (fun _ => _) (none) (Zbp X R L ops fr 3 H) (Zdd ops))
def ZpW (f : Fr → AHeap → Option (List (XE × Fr × AHeap))) : Option (List (XE × Fr × AHeap)) → Option (List (XE × Fr × AHeap))
 | some outs => ZdC f outs
 | none => none
def ZoQ (a b : Option (List (XE × Fr × AHeap))) : Option AV → Option (List (XE × Fr × AHeap))
 | some (.bool true) => a
 | some (.bool false) => b
 | _ => none
def Zi5 (id : Nat) : Option (List (XE × Fr × AHeap)) → Option (List (XE × Fr × AHeap))
 | some outs => some (outs.map (Zf5 id))
 | none => none
def ZhZ : Fr → Nat → Fr
 | ⟨tm, n, ds⟩, d => ⟨tm, n, d :: ds⟩
def Zfo : Fr → Fr
 | ⟨tm, n, _⟩ => ⟨tm, n, []⟩
def Zlm : Option AObj → Option Nat
 | some (.loop _ _ _ _ _ d) => some d
 | _ => none
def Zi6 (R : Rec) (fid : FuncId) (L : List (Nat × Code × Code)) (fr fr' : Fr) (d : Nat) (H : AHeap) (fv : AV) (ps : Array Tmp) (asg body : Code) : Option (List (XE × Fr × AHeap)) :=
 Zbj (Zi1 H.next fr') (R.call ((H.next, asg, body) :: L) fv [.yld H.next] (H.new (.loop .ready none fid (Zfo fr) ps.toList d)))
def Zok (R : Rec) (rd : Option Nat) (fid : FuncId) (L : List (Nat × Code × Code)) (fr : Fr) (H : AHeap) (fv : AV) (ps : Array Tmp) (asg body : Code) : Option (List (XE × Fr × AHeap)) :=
 match rd with
 | none => Zi6 R fid L fr (ZhZ fr H.next) H.next (H.new (.defr true)) fv ps asg body
 | some l => match Zlm (H.objs.get l) with
  | some d => Zi6 R fid L fr fr d H fv ps asg body
  | none => none
def Zcj : Option Func → Bool
 | some fn => fn.body.isSome
 | none => false
def Zln (X : XP) (R : Rec) (rd : Option Nat) (fid : FuncId) (L : List (Nat × Code × Code)) (fr : Fr) (H : AHeap) (ps : Array Tmp) (asg body : Code) : Option AV → Option (List (XE × Fr × AHeap))
 | some (.fn f a b) => (@Bool.rec (fun _ => _) (none) (Zok R rd fid L fr H (.fn f a b) ps asg body) (Zcj (X.fns.get f)))
 | _ => none
def Zb7 (X : XP) (R : Rec) (rd : Option Nat) (fid : FuncId) (L : List (Nat × Code × Code)) (fr : Fr) (H : AHeap) : Code → Option (List (XE × Fr × AHeap))
 | .skip => some [(.normal, fr, H)]
 | .label _ => some [(.normal, fr, H)]
 | .ret => some [(.ret, fr, H)]
 | .exit id => some [(.exit id, fr, H)]
 | .region _ ops d => (@Bool.rec (fun _ => _) (Zfi X R L ops.toList ops.toList fr H) (Zfn X R L ops fr H) (d))
 | .seq a b => ZpW (fun fr H => R.code rd fid L fr H b) (R.code rd fid L fr H a)
 | .cond c a b => ZoQ (R.code rd fid L fr H a) (R.code rd fid L fr H b) (Zdy X fr.tm c)
 | .block id b => Zi5 id (R.code rd fid L fr H b)
 | .loop b => ZpW (fun fr H => R.code rd fid L fr H (.loop b)) (R.code rd fid L fr H b)
 | .rangeFunc f ps asg body => Zln X R rd fid L fr H ps asg body (Zdy X fr.tm f)
 | .scope b => R.code rd fid L fr H b
 | .goto _ => none
 | .refuse _ => none
def Zrr (X : XP) (R : Rec) : Rec := { code := Zb7 X R, call := Zej X R }
def run (X : XP) (n : Nat) : Rec :=
 Nat.rec { code := fun _ _ _ _ _ _ => none, call := fun _ _ _ _ => none } (fun _ R => Zrr X R) n
mutual
def AV.free : AV → Bool
 | .ptr _ _ | .sl _ _ _ _ | .yld _ | .capOf _ _ => false
 | .fn _ a b => AV.frees a && AV.frees b
 | .ifc _ v => v.free
 | .agg l => AV.frees l
 | .tup l => AV.frees l
 | _ => true
def AV.frees : List AV → Bool
 | [] => true
 | v :: vs => v.free && AV.frees vs
end
def AObj.noLoop : AObj → Bool
 | .loop .. => false
 | _ => true
def Tr.noLoop : Tr AObj → Bool
 | .nil => true
 | .node v l r => (match v with | some o => o.noLoop | none => true) && Tr.noLoop l && Tr.noLoop r
def Zde (o : AV × AHeap) : List (AV × AHeap) → Bool
 | [] => false
 | p :: r => (@Bool.rec (fun _ => _) (Zde o r) (true) (p.1.same o.1 && Nat.ble o.2.next p.2.next && p.2.objs.sub AObj.sub o.2.objs))
def covers (outs : List (AV × AHeap)) : List (AV × AHeap) → Bool
 | [] => true
 | o :: r => Zde o outs && covers outs r
def Zf7 : List (AV × AHeap) → Bool
 | [] => true
 | o :: r => o.2.objs.noLoop && Zf7 r
def Zlo (outs : List (AV × AHeap)) : Option (List (AV × AHeap)) → Bool
 | some o => covers outs o
 | none => false
def Zlp (X : XP) (n f : Nat) (as : List AV) (pre : AHeap) (outs : List (AV × AHeap)) : Bool :=
 Zcj (X.fns.get f) && pre.objs.noLoop && Zf7 outs && Zlo outs ((run X n).call [] (.fn f [] []) as pre)
def ZrR (v : AV) : Option (List (AV × AHeap)) → Bool
 | some [p] => v.same p.1
 | _ => false
def Zh0 (X : XP) (n f : Nat) (as : List AV) (v : AV) : Bool :=
 Zcj (X.fns.get f) && AV.frees as && v.free && ZrR v ((run X n).call [] (.fn f [] []) as ⟨X.glob, .nil⟩)
end
end Go.X
