/-
  No law is proved in this text: the words of an abstract run of the model's code (values, cells, heap, operations, code), to be run by the kernel. The laws on it stand in the texts behind it.
-/
import GoSem.Claims
namespace Go.Ev

/-! ### values -/
inductive Blk where
  | n (i : Nat)
  | o (i : Nat)

inductive Atom where
  | str (s : List Nat)
  | nilp
  | ptr (b : Blk) (off : Nat)
  | nils
  | slice (b : Blk) (off len cap : Nat)
  | oslice (i off len esz : Nat)
  | nilm
  | map (i : Nat)
  | nilc
  | chan (i : Nat)
  | yield (l : Nat)
  | nilf
  | nili
  | iter (i : Nat)
  | old (v : Value)

inductive AV where
  | fn (f : Fn) (first caps : List AV)
  | iface (t : TypeId) (v : AV)
  | tup (vs : List AV)
  | agg (cs : List AV)
  | bool (b : Bool)
  | at (a : Atom)
  | int (k : IntKind) (n : Int)

instance : Inhabited AV := ⟨.bool false⟩

noncomputable def AV.cells : AV → List AV
  | .agg cs => cs
  | v => [v]

noncomputable def AV.undef : AV := .tup []

inductive OV where
  | no
  | yes (v : AV)

inductive OL where
  | no
  | yes (l : List AV)

/-! ### forcing: a number, a truth, worked out ahead of what is done with it -/
noncomputable def forceN {α : Type} (n : Nat) (k : Nat → α) : α := Nat.rec (k 0) (fun m _ => k (Nat.succ m)) n
noncomputable def forceB {α : Type} (b : Bool) (k : Bool → α) : α := Bool.casesOn b (k false) (k true)

/-! ### places: two digits, of 16 each -/
inductive D where
  | d0
  | d1
  | d2
  | d3
  | d4
  | d5
  | d6
  | d7
  | d8
  | d9
  | d10
  | d11
  | d12
  | d13
  | d14
  | d15
structure Q (α : Type) where
  a0 : α
  a1 : α
  a2 : α
  a3 : α
  a4 : α
  a5 : α
  a6 : α
  a7 : α
  a8 : α
  a9 : α
  a10 : α
  a11 : α
  a12 : α
  a13 : α
  a14 : α
  a15 : α
structure Pth where
  hi : D
  lo : D
noncomputable def dig : Nat → D
  | 0 => .d0
  | 1 => .d1
  | 2 => .d2
  | 3 => .d3
  | 4 => .d4
  | 5 => .d5
  | 6 => .d6
  | 7 => .d7
  | 8 => .d8
  | 9 => .d9
  | 10 => .d10
  | 11 => .d11
  | 12 => .d12
  | 13 => .d13
  | 14 => .d14
  | _ => .d15
noncomputable def pth (k : Nat) : Pth := ⟨dig (k / 16), dig (k % 16)⟩
abbrev TT := Q (Q AV)
noncomputable def Q.get {α : Type} (d : D) : Q α → α := D.rec Q.a0 Q.a1 Q.a2 Q.a3 Q.a4 Q.a5 Q.a6 Q.a7 Q.a8 Q.a9 Q.a10 Q.a11 Q.a12 Q.a13 Q.a14 Q.a15 d
noncomputable def Q.set {α : Type} (d : D) (x : α) (q : Q α) : Q α := D.rec ⟨x, q.a1, q.a2, q.a3, q.a4, q.a5, q.a6, q.a7, q.a8, q.a9, q.a10, q.a11, q.a12, q.a13, q.a14, q.a15⟩ ⟨q.a0, x, q.a2, q.a3, q.a4, q.a5, q.a6, q.a7, q.a8, q.a9, q.a10, q.a11, q.a12, q.a13, q.a14, q.a15⟩ ⟨q.a0, q.a1, x, q.a3, q.a4, q.a5, q.a6, q.a7, q.a8, q.a9, q.a10, q.a11, q.a12, q.a13, q.a14, q.a15⟩ ⟨q.a0, q.a1, q.a2, x, q.a4, q.a5, q.a6, q.a7, q.a8, q.a9, q.a10, q.a11, q.a12, q.a13, q.a14, q.a15⟩ ⟨q.a0, q.a1, q.a2, q.a3, x, q.a5, q.a6, q.a7, q.a8, q.a9, q.a10, q.a11, q.a12, q.a13, q.a14, q.a15⟩ ⟨q.a0, q.a1, q.a2, q.a3, q.a4, x, q.a6, q.a7, q.a8, q.a9, q.a10, q.a11, q.a12, q.a13, q.a14, q.a15⟩ ⟨q.a0, q.a1, q.a2, q.a3, q.a4, q.a5, x, q.a7, q.a8, q.a9, q.a10, q.a11, q.a12, q.a13, q.a14, q.a15⟩ ⟨q.a0, q.a1, q.a2, q.a3, q.a4, q.a5, q.a6, x, q.a8, q.a9, q.a10, q.a11, q.a12, q.a13, q.a14, q.a15⟩ ⟨q.a0, q.a1, q.a2, q.a3, q.a4, q.a5, q.a6, q.a7, x, q.a9, q.a10, q.a11, q.a12, q.a13, q.a14, q.a15⟩ ⟨q.a0, q.a1, q.a2, q.a3, q.a4, q.a5, q.a6, q.a7, q.a8, x, q.a10, q.a11, q.a12, q.a13, q.a14, q.a15⟩ ⟨q.a0, q.a1, q.a2, q.a3, q.a4, q.a5, q.a6, q.a7, q.a8, q.a9, x, q.a11, q.a12, q.a13, q.a14, q.a15⟩ ⟨q.a0, q.a1, q.a2, q.a3, q.a4, q.a5, q.a6, q.a7, q.a8, q.a9, q.a10, x, q.a12, q.a13, q.a14, q.a15⟩ ⟨q.a0, q.a1, q.a2, q.a3, q.a4, q.a5, q.a6, q.a7, q.a8, q.a9, q.a10, q.a11, x, q.a13, q.a14, q.a15⟩ ⟨q.a0, q.a1, q.a2, q.a3, q.a4, q.a5, q.a6, q.a7, q.a8, q.a9, q.a10, q.a11, q.a12, x, q.a14, q.a15⟩ ⟨q.a0, q.a1, q.a2, q.a3, q.a4, q.a5, q.a6, q.a7, q.a8, q.a9, q.a10, q.a11, q.a12, q.a13, x, q.a15⟩ ⟨q.a0, q.a1, q.a2, q.a3, q.a4, q.a5, q.a6, q.a7, q.a8, q.a9, q.a10, q.a11, q.a12, q.a13, q.a14, x⟩ d
noncomputable def Q.all {α : Type} (x : α) : Q α := ⟨x, x, x, x, x, x, x, x, x, x, x, x, x, x, x, x⟩
noncomputable def TT.e : TT := .all (.all .undef)
noncomputable def TT.get (p : Pth) (t : TT) : AV := Q.get p.lo (Q.get p.hi t)
noncomputable def TT.set (p : Pth) (x : AV) (t : TT) : TT := Q.set p.hi (Q.set p.lo x (Q.get p.hi t)) t

noncomputable def TT.ofL : Nat → List AV → TT → TT
  | _, [], t => t
  | i, v :: vs, t => TT.ofL (i + 1) vs (TT.set (pth i) v t)

/-! ### a tree by numbers -/
inductive Tr (α : Type) where
  | e
  | n (l : Tr α) (v : Option α) (r : Tr α)

noncomputable def Tr.get {α : Type} (t : Tr α) : Nat → Option α :=
  Tr.rec (fun _ => none) (fun _ v _ gl gr k => Nat.rec v (fun k _ => Nat.rec (gl (Nat.div k 2)) (fun _ _ => gr (Nat.div k 2)) (Nat.mod k 2)) k) t
noncomputable def Tr.put {α : Type} (d : Nat) (x : Option α) : Nat → Tr α → Tr α :=
  Nat.rec (fun _ _ => .e) (fun _ ih k t =>
    Nat.rec (Tr.casesOn t (.n .e x .e) (fun l _ r => .n l x r))
      (fun k _ => Nat.rec (Tr.casesOn t (.n (ih (Nat.div k 2) .e) none .e) (fun l v r => .n (ih (Nat.div k 2) l) v r))
        (fun _ _ => Tr.casesOn t (.n .e none (ih (Nat.div k 2) .e)) (fun l v r => .n l v (ih (Nat.div k 2) r))) (Nat.mod k 2)) k) d

noncomputable def dep : Nat := 40

/-! ### lists by place -/
noncomputable def nthL (t : List AV) : Nat → OV :=
  List.rec (fun _ => .no) (fun x _ ih i => Nat.rec (.yes x) (fun j _ => ih j) i) t
noncomputable def setL (v : AV) (t : List AV) : Nat → List AV :=
  List.rec (fun _ => []) (fun x xs ih i => Nat.rec (v :: xs) (fun j _ => x :: ih j) i) t
noncomputable def dropL (i : Nat) : List AV → List AV :=
  Nat.rec (fun t => t) (fun _ ih t => List.casesOn t [] (fun _ xs => ih xs)) i
noncomputable def takeL (i : Nat) : List AV → OL :=
  Nat.rec (fun _ => .yes []) (fun _ ih t => List.casesOn t .no (fun x xs => OL.casesOn (ih xs) .no (fun ys => .yes (x :: ys)))) i

/-! ### cells: a list, or (of many) a tree with a value that stands wherever none was put -/
inductive Cells where
  | l (xs : List AV)
  | t (n : Nat) (tr : Tr AV) (d : AV)

noncomputable def Cells.size : Cells → Nat
  | .l xs => xs.length
  | .t n _ _ => n

noncomputable def Cells.get : Cells → Nat → OV
  | .l xs, i => nthL xs i
  | .t n tr d, i => bif Nat.blt i n then .yes ((tr.get i).getD d) else .no

noncomputable def putAll : Nat → List AV → Tr AV → Tr AV
  | _, [], tr => tr
  | i, v :: vs, tr => putAll (i + 1) vs (tr.put dep (some v) i)

noncomputable def Cells.ofL (xs : List AV) : Cells :=
  bif Nat.ble xs.length 48 then .l xs else forceN xs.length fun n => bif Nat.ble n 1073741824 then .t n (putAll 0 xs .e) .undef else .l []

noncomputable def Cells.pushN : Cells → List AV → Cells
  | .l xs, vs => Cells.ofL (xs ++ vs)
  | .t n tr d, vs => forceN (n + vs.length) fun m => bif Nat.ble m 1073741824 then .t m (putAll n vs tr) d else .l []

noncomputable def getAll (tr : Tr AV) (d : AV) (i : Nat) : Nat → List AV
  | 0 => []
  | k + 1 => forceN i fun i => (tr.get i).getD d :: getAll tr d (i + 1) k

noncomputable def Cells.getN (c : Cells) (i k : Nat) : OL :=
  match c with
  | .l xs => takeL k (dropL i xs)
  | .t n tr d => bif Nat.ble (i + k) n then .yes (getAll tr d i k) else .no

/-- A list with others in the place of some; too long: none. -/
noncomputable def putL : Nat → List AV → List AV → OL
  | _, [], xs => .yes xs
  | 0, v :: vs, xs => match xs with
    | [] => .no
    | _ :: xs => match putL 0 vs xs with
      | .yes ys => .yes (v :: ys)
      | .no => .no
  | i + 1, v :: vs, xs => match xs with
    | [] => .no
    | x :: xs => match putL i (v :: vs) xs with
      | .yes ys => .yes (x :: ys)
      | .no => .no

inductive OC where
  | no
  | yes (c : Cells)

noncomputable def Cells.putN (c : Cells) (i : Nat) (vs : List AV) : OC :=
  match c with
  | .l xs => match putL i vs xs with
    | .yes ys => .yes (.l ys)
    | .no => .no
  | .t n tr d => bif Nat.ble (i + vs.length) n && Nat.ble n 1073741824 then .yes (.t n (putAll i vs tr) d) else .no

noncomputable def repL (zs : List AV) : Nat → List AV
  | 0 => []
  | n + 1 => zs ++ repL zs n

noncomputable def Cells.rep (n : Nat) (zs : List AV) : Cells :=
  match zs with
  | [z] => bif Nat.ble n 48 then .l (repL [z] n) else .t n .e z
  | zs => Cells.ofL (repL zs n)

/-! ### the heap -/
structure AEntry where
  key : AV
  val : AV
  born : Nat

inductive LSt where
  | ready | busy | done | exhausted

/-- How a round, or a body, ends. -/
inductive Jmp where
  | ret
  | ex (id : Nat)

inductive AObj where
  | cells (c : Cells)
  | open_ (esz : Nat) (c : Cells)
  | ro (c : Cells)
  | map (es : List AEntry) (clock : Nat)
  | loop (s : LSt) (pending : Option Jmp) (nt : Nat) (t : TT) (ps : List Nat) (assign body : Code) (dfd : Nat)
  | dfd (o : Bool)
  | chan (closed : Bool)
  | siter (s : List Nat) (pos : Nat)
  | miter (m : Option Nat) (since : Nat) (seen : List Nat) (last : Nat)

structure Hp where
  tr : Tr AObj
  nx : Nat

noncomputable def Hp.get (h : Hp) (i : Nat) : Option AObj := Hp.casesOn h fun tr _ => tr.get i
noncomputable def Hp.set (h : Hp) (i : Nat) (o : AObj) : Hp := Hp.casesOn h fun tr nx => ⟨tr.put dep (some o) i, nx⟩
noncomputable def Hp.del (h : Hp) (i : Nat) : Hp := Hp.casesOn h fun tr nx => ⟨tr.put dep none i, nx⟩
noncomputable def Hp.new (h : Hp) (o : AObj) : Hp := Hp.casesOn h fun tr nx => forceN (Nat.succ nx) fun m => ⟨tr.put dep (some o) nx, m⟩

inductive OVH where
  | no
  | yes (v : AV) (h : Hp)

/-- Memory that was there when the run began: what the kernel is told of it. -/
abbrev OM := Nat → Nat → OV

/-! ### constants -/
mutual
noncomputable def cv : Value → OV
  | .bool b => .yes (.bool b)
  | .int k n => .yes (.int k n)
  | .string s => .yes (.at (.str (s.data.toList.map UInt8.toNat)))
  | .pointer none => .yes (.at .nilp)
  | .slice none 0 0 => .yes (.at .nils)
  | .map none => .yes (.at .nilm)
  | .chan none => .yes (.at .nilc)
  | .nilFunc => .yes (.at .nilf)
  | .nilIface => .yes (.at .nili)
  | .agg cs => match cvA cs with
    | .yes l => .yes (.agg l)
    | .no => .no
  | _ => .no
noncomputable def cvA : Array Value → OL
  | ⟨l⟩ => cvL l
noncomputable def cvL : List Value → OL
  | [] => .yes []
  | v :: vs => match cv v with
    | .yes x => match cvL vs with
      | .yes xs => .yes (x :: xs)
      | .no => .no
    | .no => .no
end

/-- A place of a temporary that paths tell apart. -/
noncomputable def okT (i : Nat) : Bool := Nat.blt i 256

abbrev Get := TT → AV

noncomputable def kst (v : AV) : Get := fun _ => v

noncomputable def opd : Operand → Option Get
  | .tmp i => bif okT i then some (TT.get (pth i)) else none
  | .const v => match cv v with
    | .yes x => some (kst x)
    | .no => none
  | .global g => some (kst (.at (.ptr (.o g) 0)))
  | .func f => some (kst (.fn (.func f) [] []))

noncomputable def opds : List Operand → Option (List Get)
  | [] => some []
  | x :: xs => match opd x with
    | some g => match opds xs with
      | some gs => some (g :: gs)
      | none => none
    | none => none

noncomputable def opdP : List (Nat × Operand) → Option (List (Nat × Get))
  | [] => some []
  | (i, x) :: xs => match opd x with
    | some g => match opdP xs with
      | some gs => some ((i, g) :: gs)
      | none => none
    | none => none

noncomputable def gets (t : TT) : List Get → List AV
  | [] => []
  | g :: gs => g t :: gets t gs

noncomputable def getsP (t : TT) : List (Nat × Get) → List (Nat × AV)
  | [] => []
  | (i, g) :: gs => (i, g t) :: getsP t gs

/-! ### types -/
section types
variable (P : Program)
noncomputable def tySize (t : TypeId) : Option Nat := match P.info? t with
  | some i => some i.size
  | none => none
noncomputable def tyBytes (t : TypeId) : Option Nat := match P.info? t with
  | some i => some i.bytes
  | none => none
noncomputable def tyAgg (t : TypeId) : Option Bool := match P.underlying t with
  | some (.struct _) | some (.array _ _) => some true
  | some _ => some false
  | none => none
noncomputable def tyZeroV (t : TypeId) : OV := match P.info? t with
  | some i => match i.zero with
    | some z => cv z
    | none => .no
  | none => .no
noncomputable def tyZero (t : TypeId) : OL := match tyZeroV P t with
  | .yes v => .yes v.cells
  | .no => .no
/-- A value of cells: of a struct or an array, or the one cell. -/
noncomputable def mkV : Bool → List AV → OV
  | true, cs => .yes (.agg cs)
  | false, cs => match cs with
    | [v] => .yes v
    | _ => .no
end types

/-! ### integers -/
noncomputable def addI (a b : Int) : Int := Int.casesOn a (fun m => Int.casesOn b (fun n => .ofNat (Nat.add m n)) (fun n => Int.subNatNat m (Nat.succ n)))
  (fun m => Int.casesOn b (fun n => Int.subNatNat n (Nat.succ m)) (fun n => .negSucc (Nat.succ (Nat.add m n))))
noncomputable def negI (a : Int) : Int := Int.casesOn a (fun m => Nat.casesOn m (.ofNat 0) (fun m => .negSucc m)) (fun m => .ofNat (Nat.succ m))
noncomputable def subI (a b : Int) : Int := addI a (negI b)
noncomputable def mulI (a b : Int) : Int := Int.casesOn a (fun m => Int.casesOn b (fun n => .ofNat (Nat.mul m n)) (fun n => negI (.ofNat (Nat.mul m (Nat.succ n)))))
  (fun m => Int.casesOn b (fun n => negI (.ofNat (Nat.mul (Nat.succ m) n))) (fun n => .ofNat (Nat.mul (Nat.succ m) (Nat.succ n))))

/-- What a number of a kind comes to, in its kind, worked out. -/
noncomputable def fin (k : IntKind) (n : Int) : OV := Int.casesOn n (fun m => forceN m fun m => .yes (.int k (.ofNat m))) (fun m => forceN m fun m => .yes (.int k (.negSucc m)))
noncomputable def wrapS (k : IntKind) (n : Int) : OV := fin k (k.wrap n)
noncomputable def wrap64 (n : Int) : OV := Int.casesOn n
  (fun m => bif Nat.ble m 9223372036854775807 then forceN m fun m => .yes (.int .i64 (.ofNat m)) else wrapS .i64 n)
  (fun m => bif Nat.ble m 9223372036854775807 then forceN m fun m => .yes (.int .i64 (.negSucc m)) else wrapS .i64 n)
noncomputable def wrapU (k : IntKind) (w : Nat) (n : Int) : OV := Int.casesOn n (fun m => forceN (Nat.mod m w) fun m => .yes (.int k (.ofNat m))) (fun _ => wrapS k n)
noncomputable def wrapF (k : IntKind) (n : Int) : OV :=
  IntKind.casesOn k (wrapS .i8 n) (wrapS .i16 n) (wrapS .i32 n) (wrap64 n) (wrapU .u8 256 n) (wrapU .u16 65536 n) (wrapU .u32 4294967296 n) (wrapU .u64 18446744073709551616 n)

noncomputable def toU (k : IntKind) (n : Int) : Nat := Int.casesOn n (fun m => Nat.mod m (Nat.pow 2 k.bits)) (fun _ => (n % (2 ^ k.bits : Int)).toNat)

noncomputable def ltI (a b : Int) : Bool := Int.casesOn a (fun m => Int.casesOn b (fun n => Nat.ble (Nat.succ m) n) (fun _ => false)) (fun m => Int.casesOn b (fun _ => true) (fun n => Nat.ble (Nat.succ n) m))
noncomputable def eqI (a b : Int) : Bool := Int.casesOn a (fun m => Int.casesOn b (fun n => Nat.beq m n) (fun _ => false)) (fun m => Int.casesOn b (fun _ => false) (fun n => Nat.beq m n))
noncomputable def kix (k : IntKind) : Nat := IntKind.casesOn k 0 1 2 3 4 5 6 7
noncomputable def eqK (a b : IntKind) : Bool := Nat.beq (kix a) (kix b)
noncomputable def okB (b : Bool) : OV := Bool.casesOn b (.yes (.bool false)) (.yes (.bool true))

noncomputable def asI (v : AV) (f : IntKind → Int → OV) : OV := AV.casesOn v (fun _ _ _ => .no) (fun _ _ => .no) (fun _ => .no) (fun _ => .no) (fun _ => .no) (fun _ => .no) (fun k n => f k n)
noncomputable def asA (v : AV) (f : Atom → OV) : OV := AV.casesOn v (fun _ _ _ => .no) (fun _ _ => .no) (fun _ => .no) (fun _ => .no) (fun _ => .no) (fun a => f a) (fun _ _ => .no)

/-- Two numbers of one kind. -/
noncomputable def int2 (f : IntKind → Int → Int → OV) (x y : Get) (t : TT) : OV :=
  asI (x t) fun k a => asI (y t) fun k' b => bif eqK k k' then f k a b else .no

noncomputable def fAdd (k : IntKind) (a b : Int) : OV := wrapF k (addI a b)
noncomputable def fSub (k : IntKind) (a b : Int) : OV := wrapF k (subI a b)
noncomputable def fMul (k : IntKind) (a b : Int) : OV := wrapF k (mulI a b)
noncomputable def fQuo (k : IntKind) (a b : Int) : OV := bif eqI b 0 then .no else wrapF k (a.tdiv b)
noncomputable def fRem (k : IntKind) (a b : Int) : OV := bif eqI b 0 then .no else fin k (a.tmod b)
noncomputable def fAnd (k : IntKind) (a b : Int) : OV := wrapF k (.ofNat (Nat.land (toU k a) (toU k b)))
noncomputable def fOr (k : IntKind) (a b : Int) : OV := wrapF k (.ofNat (Nat.lor (toU k a) (toU k b)))
noncomputable def fXor (k : IntKind) (a b : Int) : OV := wrapF k (.ofNat (Nat.xor (toU k a) (toU k b)))
noncomputable def fEq (_ : IntKind) (a b : Int) : OV := okB (eqI a b)
noncomputable def fNe (_ : IntKind) (a b : Int) : OV := okB (!eqI a b)
noncomputable def fLt (_ : IntKind) (a b : Int) : OV := okB (ltI a b)
noncomputable def fLe (_ : IntKind) (a b : Int) : OV := okB (!ltI b a)
noncomputable def fGt (_ : IntKind) (a b : Int) : OV := okB (ltI b a)
noncomputable def fGe (_ : IntKind) (a b : Int) : OV := okB (!ltI a b)

noncomputable def intFn : BinOp → Option (IntKind → Int → Int → OV)
  | .add => some fAdd | .sub => some fSub | .mul => some fMul | .quo => some fQuo | .rem => some fRem
  | .and => some fAnd | .or => some fOr | .xor => some fXor
  | .eql => some fEq | .neq => some fNe | .lss => some fLt | .leq => some fLe | .gtr => some fGt | .geq => some fGe
  | _ => none

noncomputable def shl2 (x y : Get) (t : TT) : OV :=
  asI (x t) fun k a => asI (y t) fun _ b => Int.casesOn b (fun b => wrapF k (mulI a (.ofNat (Nat.pow 2 (bif Nat.ble b k.bits then b else k.bits))))) (fun _ => .no)
noncomputable def shr2 (x y : Get) (t : TT) : OV :=
  asI (x t) fun k a => asI (y t) fun _ b => Int.casesOn b (fun b =>
    Int.casesOn a (fun m => forceN (Nat.div m (Nat.pow 2 (bif Nat.ble b k.bits then b else k.bits))) fun m => .yes (.int k (.ofNat m)))
      (fun _ => fin k (a.fdiv (2 ^ (bif Nat.ble b k.bits then b else k.bits))))) (fun _ => .no)

noncomputable def eqS : List Nat → List Nat → Bool
  | [], [] => true
  | a :: x, b :: y => bif Nat.beq a b then eqS x y else false
  | _, _ => false

noncomputable def ltS : List Nat → List Nat → Bool
  | _, [] => false
  | [], _ :: _ => true
  | a :: x, b :: y => bif Nat.blt a b then true else bif Nat.beq a b then ltS x y else false

noncomputable def strOp (op : BinOp) (x y : List Nat) : OV :=
  match op with
  | .add => bif Nat.blt (x.length + y.length) 1000000000 then .yes (.at (.str (x ++ y))) else .no
  | .eql => okB (eqS x y)
  | .neq => okB (!eqS x y)
  | .lss => okB (ltS x y)
  | .leq => okB (ltS x y || eqS x y)
  | .gtr => okB (!(ltS x y || eqS x y))
  | .geq => okB (!ltS x y)
  | _ => .no

noncomputable def str2 (op : BinOp) (x y : Get) (t : TT) : OV :=
  match x t, y t with
  | .at (.str a), .at (.str b) => strOp op a b
  | _, _ => .no

/-! ### equality -/
inductive OB where
  | no
  | yes (b : Bool)

section eq
variable (P : Program)
mutual
/-- '==' at a type, by a bound on the nesting. -/
noncomputable def eqV : Nat → TypeId → AV → AV → OB
  | 0, _, _, _ => .no
  | d + 1, t, x, y =>
    match P.underlying t with
    | some .bool => match x, y with
      | .bool a, .bool b => .yes (a == b)
      | _, _ => .no
    | some (.int _) => match x, y with
      | .int k a, .int k' b => bif eqK k k' then .yes (eqI a b) else .no
      | _, _ => .no
    | some .string => match x, y with
      | .at (.str a), .at (.str b) => .yes (eqS a b)
      | _, _ => .no
    | some (.pointer _) => match x, y with
      | .at .nilp, .at .nilp => .yes true
      | .at .nilp, .at (.ptr _ _) | .at (.ptr _ _), .at .nilp => .yes false
      | _, _ => .no
    | some (.slice _) => match x, y with
      | .at .nils, .at .nils => .yes true
      | .at .nils, .at (.slice _ _ _ _) | .at (.slice _ _ _ _), .at .nils | .at .nils, .at (.oslice _ _ _ _) | .at (.oslice _ _ _ _), .at .nils => .yes false
      | _, _ => .no
    | some (.map _ _) => match x, y with
      | .at .nilm, .at .nilm => .yes true
      | .at .nilm, .at (.map _) | .at (.map _), .at .nilm => .yes false
      | _, _ => .no
    | some (.func _ _ _) => match x, y with
      | .at .nilf, .at .nilf => .yes true
      | .at .nilf, .fn _ _ _ | .fn _ _ _, .at .nilf => .yes false
      | _, _ => .no
    | some (.struct fields) => match x, y with
      | .agg xs, .agg ys => bif P.stoodInHeld t then .no else eqFs d fields.toList xs ys
      | _, _ => .no
    | some (.array len elem) => match x, y with
      | .agg xs, .agg ys => match tySize P elem, tyAgg P elem with
        | some n, some g => eqAs d elem n g len xs ys
        | _, _ => .no
      | _, _ => .no
    | _ => .no
noncomputable def eqFs : Nat → List Field → List AV → List AV → OB
  | 0, _, _, _ => .no
  | _ + 1, [], _, _ => .yes true
  | d + 1, f :: fs, xs, ys =>
    bif f.name == "_" then .no else
    match tySize P f.type, tyAgg P f.type with
    | some n, some g => match takeL n (dropL f.offset xs), takeL n (dropL f.offset ys) with
      | .yes as, .yes bs => match mkV g as, mkV g bs with
        | .yes a, .yes b => match eqV d f.type a b with
          | .yes true => eqFs d fs xs ys
          | r => r
        | _, _ => .no
      | _, _ => .no
    | _, _ => .no
noncomputable def eqAs : Nat → TypeId → Nat → Bool → Nat → List AV → List AV → OB
  | 0, _, _, _, _, _, _ => .no
  | _ + 1, _, _, _, 0, _, _ => .yes true
  | d + 1, elem, n, g, len + 1, xs, ys =>
    match takeL n xs, takeL n ys with
    | .yes as, .yes bs => match mkV g as, mkV g bs with
      | .yes a, .yes b => match eqV d elem a b with
        | .yes true => eqAs d elem n g len (dropL n xs) (dropL n ys)
        | r => r
      | _, _ => .no
    | _, _ => .no
end
end eq

/-! ### operations -/
inductive OA where
  | no
  | yes (o : AObj) (mk : Nat → AV)

inductive Act1 where
  | pure (f : TT → OV)
  | read (f : TT → Hp → OV)
  | alloc (f : TT → OA)
  | eff (f : TT → Hp → OVH)
  | call (x : Get) (args : List Get)
  | bad

noncomputable def natOf : AV → Option Nat
  | .int _ (.ofNat n) => some n
  | _ => none

section ops
variable (P : Program) (om : OM)

noncomputable def omGetN (b i : Nat) : Nat → OL
  | 0 => .yes []
  | k + 1 => match om b i with
    | .yes v => match omGetN b (i + 1) k with
      | .yes vs => .yes (v :: vs)
      | .no => .no
    | .no => .no

/-- So many cells from a place on. -/
noncomputable def hGetN (h : Hp) (b : Blk) (i n : Nat) : OL :=
  match b with
  | .o b => omGetN om b i n
  | .n b => match h.get b with
    | some (.cells c) => c.getN i n
    | some (.open_ _ c) => c.getN i n
    | some (.ro c) => c.getN i n
    | _ => .no

inductive OH where
  | no
  | yes (h : Hp)

/-- May values stand in a cell each. -/
noncomputable def isCell (v : AV) : Bool := AV.casesOn v (fun _ _ _ => true) (fun _ _ => true) (fun _ => false) (fun _ => false) (fun _ => true) (fun _ => true) (fun _ _ => true)
noncomputable def flatL : List AV → Bool
  | [] => true
  | v :: vs => bif isCell v then flatL vs else false

noncomputable def hPutN (h : Hp) (b : Blk) (i : Nat) (vs : List AV) : OH :=
  bif !flatL vs then .no else
  match b with
  | .o _ => .no
  | .n b => match h.get b with
    | some (.cells c) => match c.putN i vs with
      | .yes c => .yes (h.set b (.cells c))
      | .no => .no
    | some (.open_ z c) => match c.putN i vs with
      | .yes c => .yes (h.set b (.open_ z c))
      | .no => .no
    | _ => .no

noncomputable def hGet1 (h : Hp) (b : Blk) (i : Nat) : OV :=
  match b with
  | .o b => om b i
  | .n b => match h.get b with
    | some (.cells c) => c.get i
    | some (.open_ _ c) => c.get i
    | some (.ro c) => c.get i
    | _ => .no

/-- A slice's place, where its cells are looked at. -/
noncomputable def slPlace : AV → Option (Blk × Nat × Nat)
  | .at (.slice b off len _) => some (b, off, len)
  | .at (.oslice i off len _) => some (.n i, off, len)
  | _ => none

noncomputable def slLen : AV → Option Nat
  | .at .nils => some 0
  | .at (.slice _ _ len _) => some len
  | .at (.oslice _ _ len _) => some len
  | _ => none

/-- A bound of a slice: at most so much. -/
noncomputable def bnd (x : Option AV) (dflt most : Nat) : Option Nat :=
  match x with
  | none => some dflt
  | some v => match natOf v with
    | some n => bif Nat.ble n most then some n else none
    | none => none

noncomputable def mkSl (b : Blk) (off len cap : Nat) : OV := forceN off fun off => forceN len fun len => forceN cap fun cap => .yes (.at (.slice b off len cap))
noncomputable def mkOs (i off len z : Nat) : OV := forceN off fun off => forceN len fun len => .yes (.at (.oslice i off len z))
noncomputable def mkPt (b : Blk) (off : Nat) : OV := forceN off fun off => .yes (.at (.ptr b off))

noncomputable def sliceOf (sz : Nat) (x : AV) (lo hi mx : Option AV) : OV :=
  match x with
  | .at .nils => match bnd mx 0 0, bnd hi 0 0, bnd lo 0 0 with
    | some _, some _, some _ => .yes (.at .nils)
    | _, _, _ => .no
  | .at (.slice b off len cap) => match bnd mx cap cap with
    | some m => match bnd hi len m with
      | some h => match bnd lo 0 h with
        | some l => bif Nat.beq m l then mkSl b off (h - l) (m - l) else mkSl b (off + l * sz) (h - l) (m - l)
        | none => .no
      | none => .no
    | none => .no
  | .at (.oslice i off len z) => bif !Nat.beq z sz then .no else match mx with
    | none => match bnd hi len len with
      | some h => match bnd lo 0 h with
        | some l => mkOs i (off + l * sz) (h - l) z
        | none => .no
      | none => .no
    | some _ => match bnd mx len len with
      | some m => match bnd hi len m with
        | some h => match bnd lo 0 h with
          | some l => bif Nat.beq m l then .no else mkSl (.n i) (off + l * sz) (h - l) (m - l)
          | none => .no
        | none => .no
      | none => .no
  | _ => .no

inductive OS where
  | no
  | yes (s : List Nat)

/-- The bytes of cells. -/
noncomputable def bytesOf : List AV → OS
  | [] => .yes []
  | .int .u8 (.ofNat n) :: r => bif Nat.blt n 256 then (match bytesOf r with
    | .yes l => .yes (n :: l)
    | .no => .no) else .no
  | _ => .no

noncomputable def byteVals (s : List Nat) : List AV := s.map fun n => .int .u8 (.ofNat n)

noncomputable def fill (place : Nat → Option (Nat × Nat)) (cells : List AV) : List (Nat × AV) → OL
  | [] => .yes cells
  | (i, v) :: rest => match place i with
    | none => .no
    | some (off, size) =>
      bif Nat.beq v.cells.length size && Nat.blt 0 size then
        match putL off v.cells cells with
        | .yes cells => fill place cells rest
        | .no => .no
      else .no

noncomputable def fieldPlaces : List Field → Option (List (Nat × Nat))
  | [] => some []
  | f :: fs => match tySize P f.type, fieldPlaces fs with
    | some n, some r => some ((f.offset, n) :: r)
    | _, _ => none

inductive LK where
  | no
  | miss
  | hit (i : Nat) (e : AEntry)

noncomputable def lookE (eq : AV → AV → OB) (k : AV) : List AEntry → Nat → LK
  | [], _ => .miss
  | e :: es, i => match eq k e.key with
    | .yes true => .hit i e
    | .yes false => lookE eq k es (i + 1)
    | .no => .no

/-- May a key of this type be looked for: it is a truth, a number or a text. -/
noncomputable def keyTy (_ : Nat) (t : TypeId) : Bool := match P.underlying t with
  | some .bool | some (.int _) | some .string => true
  | _ => false

noncomputable def max2 (a b : AV) : OV := match a, b with
  | .int k x, .int _ y => .yes (.int k (bif ltI x y then y else x))
  | _, _ => .no
noncomputable def min2 (a b : AV) : OV := match a, b with
  | .int k x, .int _ y => .yes (.int k (bif ltI y x then y else x))
  | _, _ => .no
noncomputable def fold2 (f : AV → AV → OV) (x : AV) : List AV → OV
  | [] => .yes x
  | y :: r => match f x y with
    | .yes z => fold2 f z r
    | .no => .no

/-- The cells of a slice's, or a string's, first elements. -/
noncomputable def srcCells (h : Hp) (sz n : Nat) (x : AV) : OL :=
  match x with
  | .at .nils => .yes []
  | .at (.str s) => bif Nat.beq sz 1 then .yes (byteVals (s.take n)) else .no
  | x => match slPlace x with
    | some (b, off, _) => hGetN om h b off (n * sz)
    | none => .no

noncomputable def srcLen : AV → Option Nat
  | .at (.str s) => some s.length
  | x => slLen x

noncomputable def big (bytes sz need : Nat) : Bool := Nat.blt need 1073741824 && Nat.blt bytes 1024 && Nat.blt 0 sz

noncomputable def newOpen (sz len : Nat) (c : Cells) (h : Hp) : OVH := forceN len fun len => .yes (.at (.oslice h.nx 0 len sz)) (h.new (.open_ sz c))

/-- append: sz: cells of an element; bytes: its bytes; n: how many are appended; new: their cells. -/
noncomputable def appendN (sz bytes : Nat) (s : AV) (n : Nat) (new : List AV) (h : Hp) : OVH :=
  match s with
  | .at .nils => match n with
    | 0 => .yes (.at .nils) h
    | n => bif big bytes sz n then newOpen sz n (Cells.ofL new) h else .no
  | .at (.slice b off len cap) =>
    bif Nat.ble (len + n) cap then
      match n with
      | 0 => .yes s h
      | n => match hPutN h b (off + len * sz) new with
        | .yes h => forceN (len + n) fun len => .yes (.at (.slice b off len cap)) h
        | .no => .no
    else bif big bytes sz (len + n) then match hGetN om h b off (len * sz) with
      | .yes old => newOpen sz (len + n) (Cells.ofL (old ++ new)) h
      | .no => .no
    else .no
  | .at (.oslice i off len z') => match n with
    | 0 => .yes s h
    | n => match h.get i with
      | some (.open_ z c) =>
        bif Nat.beq z sz && Nat.beq z' sz && big bytes sz (len + n) && flatL new then
          bif Nat.ble (off + (len + n) * sz) c.size then
            match c.putN (off + len * sz) new with
            | .yes c => forceN (len + n) fun len => .yes (.at (.oslice i off len z')) (h.set i (.open_ z c))
            | .no => .no
          else bif Nat.beq off 0 && Nat.beq (len * sz) c.size then newOpen sz (len + n) (c.pushN new) (h.del i)
          else match c.getN off (len * sz) with
            | .yes old => newOpen sz (len + n) (Cells.ofL (old ++ new)) (h.del i)
            | .no => .no
        else .no
      | _ => .no
  | _ => .no

noncomputable def appendA (sz bytes : Nat) (s x : AV) (h : Hp) : OVH :=
  match srcLen x with
  | none => .no
  | some n => match srcCells om h sz n x with
    | .no => .no
    | .yes new => appendN om sz bytes s n new h

noncomputable def okN (n : Nat) : OV := forceN n fun n => .yes (.int .i64 (.ofNat n))

noncomputable def lenStr (x : Get) (t : TT) : OV := match x t with
  | .at (.str s) => okN s.length
  | _ => .no
noncomputable def lenSl (x : Get) (t : TT) : OV := match slLen (x t) with
  | some n => .yes (.int .i64 (.ofNat n))
  | none => .no
noncomputable def lenMap (x : Get) (t : TT) (h : Hp) : OV := match x t with
  | .at .nilm => .yes (.int .i64 0)
  | .at (.map r) => match h.get r with
    | some (.map es _) => okN es.length
    | _ => .no
  | _ => .no
noncomputable def capSl (x : Get) (t : TT) : OV := match x t with
  | .at .nils => .yes (.int .i64 0)
  | .at (.slice _ _ _ c) => .yes (.int .i64 (.ofNat c))
  | _ => .no
noncomputable def appendZ (sz bytes : Nat) (z : List AV) (s x : Get) (t : TT) (h : Hp) : OVH := match natOf (x t) with
  | some n => bif Nat.blt n 1073741824 then appendN om sz bytes (s t) n (repL z n) h else .no
  | none => .no
noncomputable def copyA (sz : Nat) (d x : AV) (h : Hp) : OVH :=
  match slLen d, srcLen x with
  | some dl, some xl => forceN (bif Nat.ble xl dl then xl else dl) fun n =>
    match n with
    | 0 => .yes (.int .i64 0) h
    | n => match srcCells om h sz n x with
      | .yes vs => match slPlace d with
        | some (b, off, _) => match hPutN h b off vs with
          | .yes h => .yes (.int .i64 (.ofNat n)) h
          | .no => .no
        | none => .no
      | .no => .no
  | _, _ => .no
noncomputable def clearSl (z : List AV) (x : AV) (h : Hp) : OVH :=
  match slLen x with
  | some 0 => .yes .undef h
  | some n => match slPlace x with
    | some (b, off, _) => match hPutN h b off (repL z n) with
      | .yes h => .yes .undef h
      | .no => .no
    | none => .no
  | none => .no
noncomputable def clearMap (x : AV) (h : Hp) : OVH := match x with
  | .at .nilm => .yes .undef h
  | .at (.map r) => match h.get r with
    | some (.map _ c) => .yes .undef (h.set r (.map [] c))
    | _ => .no
  | _ => .no
noncomputable def closeA (x : AV) (h : Hp) : OVH := match x with
  | .at (.chan r) => match h.get r with
    | some (.chan false) => .yes .undef (h.set r (.chan true))
    | _ => .no
  | _ => .no
noncomputable def deleteA (k : TypeId) (m x : AV) (h : Hp) : OVH := match m with
  | .at .nilm => .yes .undef h
  | .at (.map r) => match h.get r with
    | some (.map es c) => match lookE (eqV P 40 k) x es 0 with
      | .hit i _ => .yes .undef (h.set r (.map (es.eraseIdx i) c))
      | .miss => .yes .undef h
      | .no => .no
    | _ => .no
  | _ => .no

noncomputable def builtinA (b : Builtin) (argTypes : List TypeId) (args : List Get) : Act1 :=
  match b with
  | .len => match argTypes, args with
    | t :: _, [x] => match P.underlying t with
      | some .string => .pure (lenStr x)
      | some (.slice _) => .pure (lenSl x)
      | some (.array n _) => .pure fun _ => .yes (.int .i64 (.ofNat n))
      | some (.map _ _) => .read (lenMap x)
      | _ => .bad
    | _, _ => .bad
  | .cap => match argTypes, args with
    | t :: _, [x] => match P.underlying t with
      | some (.slice _) => .pure (capSl x)
      | _ => .bad
    | _, _ => .bad
  | .append => match argTypes, args with
    | [t, u], [s, x] => match P.underlying t, P.underlying u with
      | some (.slice e), some du => match du with
        | .int _ => match tySize P e, tyBytes P e, tyZero P e with
          | some sz, some by_, .yes z => bif Nat.beq z.length sz && Nat.blt 0 sz && Nat.blt by_ 1024 then .eff (appendZ om sz by_ z s x) else .bad
          | _, _, _ => .bad
        | .slice _ | .string => match tySize P e, tyBytes P e, tyZero P e with
          | some sz, some by_, .yes z => bif Nat.beq z.length sz && Nat.blt 0 sz && Nat.blt by_ 1024 then .eff (fun t h => appendA om sz by_ (s t) (x t) h) else .bad
          | _, _, _ => .bad
        | _ => .bad
      | _, _ => .bad
    | _, _ => .bad
  | .copy => match argTypes, args with
    | t :: _, [d, x] => match P.underlying t with
      | some (.slice e) => match tySize P e with
        | some sz => bif Nat.blt 0 sz then .eff (fun t h => copyA om sz (d t) (x t) h) else .bad
        | none => .bad
      | _ => .bad
    | _, _ => .bad
  | .clear => match argTypes, args with
    | t :: _, [x] => match P.underlying t with
      | some (.slice e) => match tyZero P e with
        | .yes z => bif Nat.blt 0 z.length then .eff (fun t h => clearSl z (x t) h) else .bad
        | .no => .bad
      | some (.map _ _) => .eff fun t h => clearMap (x t) h
      | _ => .bad
    | _, _ => .bad
  | .close => match args with
    | [x] => .eff fun t h => closeA (x t) h
    | _ => .bad
  | .delete => match argTypes, args with
    | t :: _, [m, x] => match P.underlying t with
      | some (.map _ _) => .bad
      | _ => .bad
    | _, _ => .bad
  | .max => match args with
    | x :: r => .pure fun t => fold2 max2 (x t) (gets t r)
    | _ => .bad
  | .min => match args with
    | x :: r => .pure fun t => fold2 min2 (x t) (gets t r)
    | _ => .bad
  | _ => .bad

noncomputable def convInt (k : IntKind) (x : Get) (t : TT) : OV := asI (x t) fun _ n => wrapF k n
noncomputable def convStr (x : Get) (t : TT) : OV := match x t with
  | .at (.str s) => .yes (.at (.str s))
  | _ => .no
noncomputable def convMark (x : Get) (t : TT) (h : Hp) : OV := match x t with
  | .at (.slice (.n i) o l c) => match h.get i with
    | some (.cells _) => .yes (.at (.slice (.n i) o l c))
    | _ => .no
  | _ => .no
noncomputable def convBytes (x : Get) (t : TT) : OA := match x t with
  | .at (.str s) => forceN s.length fun n => .yes (.open_ 1 (Cells.ofL (byteVals s))) fun i => .at (.oslice i 0 n 1)
  | _ => .no
noncomputable def convText (x : Get) (t : TT) (h : Hp) : OV := match x t with
  | .at .nils => .yes (.at (.str []))
  | v => match slPlace v with
    | some (b, off, len) => match hGetN om h b off len with
      | .yes vs => match bytesOf vs with
        | .yes s => .yes (.at (.str s))
        | .no => .no
      | .no => .no
    | none => .no

noncomputable def convA (src dst : TypeId) (x : Get) : Act1 :=
  match P.underlying src, P.underlying dst with
  | some (.int _), some (.int k) => .pure (convInt k x)
  | some .string, some .string => .pure (convStr x)
  | some (.slice _), some (.slice e) => match P.underlying e with
    | some (.int .u8) => bif Nat.beq src dst then .read (convMark x) else .bad
    | _ => .bad
  | some .string, some (.slice e) => match P.underlying e with
    | some (.int .u8) => .alloc (convBytes x)
    | _ => .bad
  | some (.slice e), some .string => match P.underlying e with
    | some (.int .u8) => .read (convText om x)
    | _ => .bad
  | _, _ => .bad

noncomputable def pickA (c a b : Get) (t : TT) : OV := match c t with
  | .bool true => .yes (a t)
  | .bool false => .yes (b t)
  | _ => .no
noncomputable def boxA (x : Get) (t : TT) : OA := match x t with
  | .tup _ => .no
  | v => .yes (.cells (Cells.ofL v.cells)) fun i => .at (.ptr (.n i) 0)
noncomputable def buildA (place : Nat → Option (Nat × Nat)) (z : List AV) (ps : List (Nat × Get)) (t : TT) : OV := match fill place z (getsP t ps) with
  | .yes cs => .yes (.agg cs)
  | .no => .no
noncomputable def buildSlA (n len : Nat) (z : List AV) (ps : List (Nat × Get)) (t : TT) : OA := match fill (fun i => some (i * n, n)) (repL z len) (getsP t ps) with
  | .yes cs => .yes (.cells (Cells.ofL cs)) fun i => .at (.slice (.n i) 0 len len)
  | .no => .no
noncomputable def loadN (n : Nat) (a : Get) (t : TT) (h : Hp) : OV := match a t with
  | .at (.ptr b off) => match hGetN om h b off n with
    | .yes cs => .yes (.agg cs)
    | .no => .no
  | _ => .no
noncomputable def load1 (a : Get) (t : TT) (h : Hp) : OV := match a t with
  | .at (.ptr b off) => hGet1 om h b off
  | _ => .no
noncomputable def storeA (n : Nat) (a x : Get) (t : TT) (h : Hp) : OVH := match a t with
  | .at (.ptr b off) => match x t with
    | .tup _ => .no
    | v => bif Nat.beq v.cells.length n then match hPutN h b off v.cells with
        | .yes h => .yes .undef h
        | .no => .no
      else .no
  | _ => .no
noncomputable def nilChk (x : Get) (t : TT) : OV := match x t with
  | .at (.ptr b off) => .yes (.at (.ptr b off))
  | .fn (.func f) a b => .yes (.fn (.func f) a b)
  | .at (.yield l) => .yes (.at (.yield l))
  | _ => .no
noncomputable def eqvA (neg : Bool) (t : TypeId) (x y : Get) (tt : TT) : OV := match eqV P 40 t (x tt) (y tt) with
  | .yes r => bif neg then okB (!r) else okB r
  | .no => .no
noncomputable def isK : Operand → Bool
  | .const _ => true
  | _ => false
noncomputable def eqNil (neg : Bool) (x y : Get) (t : TT) : OV := match x t, y t with
  | .at .nili, .at .nili => okB (!neg)
  | .at .nili, .iface _ _ | .iface _ _, .at .nili => okB neg
  | _, _ => .no
noncomputable def notA (x : Get) (t : TT) : OV := match x t with
  | .bool b => okB (!b)
  | _ => .no
noncomputable def negA (x : Get) (t : TT) : OV := asI (x t) fun k n => wrapF k (subI 0 n)
noncomputable def comA (x : Get) (t : TT) : OV := asI (x t) fun k n => fXor k (if k.signed then -1 else k.max) n
noncomputable def mkChan (s : Get) (t : TT) : OA := match s t with
  | .int _ (.ofNat 0) => .yes (.chan false) fun i => .at (.chan i)
  | _ => .no
noncomputable def mkMapR (r : Get) (t : TT) : OA := match r t with
  | .int _ _ => .yes (.map [] 0) fun i => .at (.map i)
  | _ => .no
noncomputable def mkSlice (z : List AV) (l c : Get) (t : TT) : OA := match natOf (l t), natOf (c t) with
  | some l, some c => bif Nat.ble l c && Nat.blt c 1073741824 then .yes (.cells (Cells.rep c z)) (fun i => .at (.slice (.n i) 0 l c)) else .no
  | _, _ => .no
noncomputable def sliceStr (x : Get) (lo hi : Option Get) (t : TT) : OV := match x t with
  | .at (.str s) => match bnd (hi.map (· t)) s.length s.length with
    | some h => match bnd (lo.map (· t)) 0 h with
      | some l => .yes (.at (.str ((s.take h).drop l)))
      | none => .no
    | none => .no
  | _ => .no
noncomputable def sliceSl (n : Nat) (x : Get) (lo hi mx : Option Get) (t : TT) : OV := sliceOf n (x t) (lo.map (· t)) (hi.map (· t)) (mx.map (· t))
noncomputable def sliceArr (n len : Nat) (x : Get) (lo hi mx : Option Get) (t : TT) : OV := match x t with
  | .at (.ptr b off) => sliceOf n (.at (.slice b off len len)) (lo.map (· t)) (hi.map (· t)) (mx.map (· t))
  | _ => .no
noncomputable def fieldAddrA (o : Nat) (x : Get) (t : TT) : OV := match x t with
  | .at (.ptr b off) => mkPt b (off + o)
  | _ => .no
noncomputable def fieldA (o n : Nat) (g : Bool) (x : Get) (t : TT) : OV := match x t with
  | .agg cs => match takeL n (dropL o cs) with
    | .yes vs => mkV g vs
    | .no => .no
  | _ => .no
noncomputable def indexSl (n : Nat) (x i : Get) (t : TT) : OV := match slPlace (x t) with
  | some (b, off, len) => match natOf (i t) with
    | some i => bif Nat.blt i len then mkPt b (off + i * n) else .no
    | none => .no
  | none => .no
noncomputable def indexArr (n len : Nat) (x i : Get) (t : TT) : OV := match x t with
  | .at (.ptr b off) => match natOf (i t) with
    | some i => bif Nat.blt i len then mkPt b (off + i * n) else .no
    | none => .no
  | _ => .no
noncomputable def nthS : List Nat → Nat → Option Nat
  | [], _ => none
  | x :: _, 0 => some x
  | _ :: xs, i + 1 => nthS xs i
noncomputable def indexStr (x i : Get) (t : TT) : OV := match x t with
  | .at (.str s) => match natOf (i t) with
    | some i => match nthS s i with
      | some b => .yes (.int .u8 (.ofNat b))
      | none => .no
    | none => .no
  | _ => .no
noncomputable def indexAgg (n len : Nat) (g : Bool) (x i : Get) (t : TT) : OV := match x t with
  | .agg cs => match natOf (i t) with
    | some i => bif Nat.blt i len then match takeL n (dropL (i * n) cs) with
        | .yes vs => mkV g vs
        | .no => .no
      else .no
    | none => .no
  | _ => .no
noncomputable def okP (ok : Bool) (v : AV) (b : Bool) : OV := bif ok then .yes (.tup [v, .bool b]) else .yes v
noncomputable def lookA (k : TypeId) (z : AV) (ok : Bool) (x i : Get) (t : TT) (h : Hp) : OV := match x t with
  | .at .nilm => okP ok z false
  | .at (.map r) => match h.get r with
    | some (.map es _) => match lookE (eqV P 40 k) (i t) es 0 with
      | .hit _ e => okP ok e.val true
      | .miss => okP ok z false
      | .no => .no
    | _ => .no
  | _ => .no
noncomputable def setE (es : List AEntry) (i : Nat) (e : AEntry) : List AEntry := es.set i e
noncomputable def updA (kt : TypeId) (m k x : Get) (t : TT) (h : Hp) : OVH := match m t with
  | .at (.map r) => match h.get r with
    | some (.map es c) => match lookE (eqV P 40 kt) (k t) es 0 with
      | .hit i e => .yes .undef (h.set r (.map (setE es i ⟨k t, x t, e.born⟩) c))
      | .miss => .yes .undef (h.set r (.map (es ++ [⟨k t, x t, c⟩]) (c + 1)))
      | .no => .no
    | _ => .no
  | _ => .no
noncomputable def rangeStr (x : Get) (t : TT) : OA := match x t with
  | .at (.str s) => .yes (.siter s 0) fun i => .at (.iter i)
  | _ => .no
noncomputable def rangeMap (x : Get) (t : TT) (h : Hp) : OVH := match x t with
  | .at .nilm => .yes (.at (.iter h.nx)) (h.new (.miter none 0 [] 0))
  | .at (.map r) => match h.get r with
    | some (.map _ c) => .yes (.at (.iter h.nx)) (h.new (.miter (some r) c [] c))
    | _ => .no
  | _ => .no
noncomputable def hasN (i : Nat) : List Nat → Bool
  | [] => false
  | j :: js => bif Nat.beq i j then true else hasN i js
noncomputable def nextMap (it : Get) (t : TT) (h : Hp) : OVH := match it t with
  | .at (.iter r) => match h.get r with
    | some (.miter none _ _ _) => .yes (.tup [.bool false]) h
    | some (.miter (some m) since seen last) => match h.get m with
      | some (.map es c) =>
        bif !seen.isEmpty && !es.isEmpty && es.all (fun e => Nat.ble last e.born) then .no else
        match es.filter (fun e => !hasN e.born seen) with
        | [] => .yes (.tup [.bool false]) h
        | [e] => bif Nat.blt e.born since then .yes (.tup [.bool true, e.key, e.val]) (h.set r (.miter (some m) since (seen ++ [e.born]) c)) else .no
        | _ => .no
      | _ => .no
    | _ => .no
  | _ => .no
noncomputable def entryA (it : Get) (t : TT) (h : Hp) : OV := match it t with
  | .at (.iter r) => match h.get r with
    | some (.miter (some m) _ seen last) => match seen.getLast? with
      | some b => match h.get m with
        | some (.map es c) => bif Nat.beq c last then match es.find? (fun e => Nat.beq e.born b) with
            | some e => .yes (.tup [e.key, e.val])
            | none => .no
          else .no
        | _ => .no
      | none => .no
    | _ => .no
  | _ => .no
noncomputable def extrA (x : Get) (i : Nat) (t : TT) : OV := match x t with
  | .tup vs => nthL vs i
  | _ => .no
noncomputable def ifaceA (t : TypeId) (x : Get) (tt : TT) : OV := .yes (.iface t (x tt))
noncomputable def assertA (asserted : TypeId) (z : AV) (ok : Bool) (x : Get) (t : TT) : OV := match x t with
  | .iface d v => bif Nat.beq d asserted then okP ok v true else bif ok then .yes (.tup [z, .bool false]) else .no
  | _ => .no

noncomputable def opt (x : Option Operand) : Option (Option Get) := match x with
  | none => some none
  | some x => match opd x with
    | some g => some (some g)
    | none => none

noncomputable def den (o : Op) : Act1 :=
  match o with
  | .move x | .assign x => match opd x with
    | some x => .pure fun t => .yes (x t)
    | none => .bad
  | .pick c a b => match opd c, opd a, opd b with
    | some c, some a, some b => .pure (pickA c a b)
    | _, _, _ => .bad
  | .alloc elem => match tyZero P elem with
    | .yes z => .alloc fun _ => .yes (.cells (Cells.ofL z)) fun i => .at (.ptr (.n i) 0)
    | .no => .bad
  | .box _ x => match opd x with
    | some x => .alloc (boxA x)
    | none => .bad
  | .build t parts => match tyZero P t, P.underlying t, opdP parts.toList with
    | .yes z, some (.struct fields), some ps => match fieldPlaces P fields.toList with
      | some pl => .pure (buildA (pl[·]?) z ps)
      | none => .bad
    | .yes z, some (.array _ elem), some ps => match tySize P elem with
      | some n => .pure (buildA (fun i => some (i * n, n)) z ps)
      | none => .bad
    | _, _, _ => .bad
  | .buildSlice t len parts => match P.underlying t, opdP parts.toList with
    | some (.slice elem), some ps => match tySize P elem, tyZero P elem with
      | some n, .yes z => bif Nat.blt (len * n) 16777216 && Nat.beq z.length n then .alloc (buildSlA n len z ps) else .bad
      | _, _ => .bad
    | _, _ => .bad
  | .load t a => match tySize P t, tyAgg P t, opd a with
    | some n, some true, some a => .read (loadN om n a)
    | some _, some false, some a => .read (load1 om a)
    | _, _, _ => .bad
  | .store t a x => match tySize P t, opd a, opd x with
    | some 0, _, _ => .bad
    | some n, some a, some x => .eff (storeA n a x)
    | _, _, _ => .bad
  | .nilCheck x => match opd x with
    | some x => .pure (nilChk x)
    | none => .bad
  | .binOp op t x' y' _ => match opd x', opd y' with
    | some x, some y => match op with
      | .shl => .pure (shl2 x y)
      | .shr => .pure (shr2 x y)
      | op => match P.underlying t with
        | some (.int _) => match intFn op with
          | some f => .pure (int2 f x y)
          | none => .bad
        | some .string => .pure (str2 op x y)
        | some (.interface _) => bif isK x' || isK y' then match op with
            | .eql => .pure (eqNil false x y)
            | .neq => .pure (eqNil true x y)
            | _ => .bad
          else .bad
        | _ => match op with
          | .eql => bif P.eqGuardType P.depth t then .bad else .pure (eqvA P false t x y)
          | .neq => bif P.eqGuardType P.depth t then .bad else .pure (eqvA P true t x y)
          | _ => .bad
    | _, _ => .bad
  | .unOp op _ x => match opd x with
    | some x => match op with
      | .neg => .pure (negA x)
      | .xor => .pure (comA x)
      | .not => .pure (notA x)
      | _ => .bad
    | none => .bad
  | .convert src dst x => match opd x with
    | some x => convA P om src dst x
    | none => .bad
  | .makeFunc fn first captured => match opds first.toList, opds captured.toList with
    | some a, some b => .pure fun t => .yes (.fn fn (gets t a) (gets t b))
    | _, _ => .bad
  | .makeMap t r => match r with
    | none => .alloc fun _ => .yes (.map [] 0) fun i => .at (.map i)
    | some r => match P.underlying t, opd r with
      | some (.map _ _), some r => .alloc (mkMapR r)
      | _, _ => .bad
  | .makeChan t s => match P.underlying t, opd s with
    | some (.chan _ e), some s => match tyBytes P e with
      | some _ => .alloc (mkChan s)
      | none => .bad
    | _, _ => .bad
  | .makeSlice t l c => match P.underlying t, opd l, opd c with
    | some (.slice elem), some l, some c => match tySize P elem, tyZero P elem, tyBytes P elem with
      | some n, .yes z, some by_ => bif Nat.beq z.length n && Nat.blt by_ 1024 then .alloc (mkSlice z l c) else .bad
      | _, _, _ => .bad
    | _, _, _ => .bad
  | .slice t x lo hi mx => match opd x, opt lo, opt hi, opt mx with
    | some x, some lo, some hi, some mx => match P.underlying t with
      | some .string => .bad
      | some (.slice elem) => match tySize P elem with
        | some n => bif mx.isSome && hi.isNone then .bad else .pure (sliceSl n x lo hi mx)
        | none => .bad
      | some (.array len elem) => match tySize P elem with
        | some n => bif mx.isSome && hi.isNone then .bad else .pure (sliceArr n len x lo hi mx)
        | none => .bad
      | _ => .bad
    | _, _, _, _ => .bad
  | .fieldAddr s x f => match P.underlying s, opd x with
    | some (.struct fields), some x => match fields.toList[f]? with
      | some f => match tySize P f.type with
        | some 0 => .bad
        | some _ => .pure (fieldAddrA f.offset x)
        | none => .bad
      | none => .bad
    | _, _ => .bad
  | .field t x f => match P.underlying t, opd x with
    | some (.struct fields), some x => match fields.toList[f]? with
      | some f => match tySize P f.type, tyAgg P f.type with
        | some n, some g => .pure (fieldA f.offset n g x)
        | _, _ => .bad
      | none => .bad
    | _, _ => .bad
  | .indexAddr t x i => match P.underlying t, opd x, opd i with
    | some (.slice elem), some x, some i => match tySize P elem with
      | some n => .pure (indexSl n x i)
      | none => .bad
    | some (.array len elem), some x, some i => match tySize P elem with
      | some n => .pure (indexArr n len x i)
      | none => .bad
    | _, _, _ => .bad
  | .index t x i => match P.underlying t, opd x, opd i with
    | some .string, some x, some i => .pure (indexStr x i)
    | some (.array len elem), some x, some i => match tySize P elem, tyAgg P elem with
      | some n, some g => .pure (indexAgg n len g x i)
      | _, _ => .bad
    | _, _, _ => .bad
  | .lookup t x i ok => match P.underlying t, opd x, opd i with
    | some (.map k e), some x, some i => match tyZeroV P e with
      | .yes z => bif keyTy P 20 k then .read (lookA P k z ok x i) else .bad
      | .no => .bad
    | _, _, _ => .bad
  | .mapUpdate t m k x | .insert t m k x => match P.underlying t, opd m, opd k, opd x with
    | some (.map kt _), some m, some k, some x => bif keyTy P 20 kt then .eff (updA P kt m k x) else .bad
    | _, _, _, _ => .bad
  | .range _ _ | .next _ _ | .entry _ => .bad
  | .extract x i => match opd x with
    | some x => .pure (extrA x i)
    | none => .bad
  | .makeInterface t x => match P.underlying t, opd x with
    | some (.interface _), _ => .bad
    | some _, some x => .pure (ifaceA t x)
    | _, _ => .bad
  | .typeAssert _ _ _ _ => .bad
  | .call c => match opds c.args.toList with
    | some args => match c.callee with
      | .value f => match opd f with
        | some f => .call f args
        | none => .bad
      | .builtin b => builtinA P om b c.argTypes.toList args
      | .invoke _ _ => .bad
    | none => .bad
  | _ => .bad
end ops

/-! ### regions -/
inductive RTH where
  | no
  | yes (t : TT) (h : Hp)

abbrev CallF := AV → List AV → Hp → OVH
abbrev Stp := CallF → TT → Hp → RTH

noncomputable def putT (d : Option Nat) : AV → TT → TT := match d with
  | some d => TT.set (pth d)
  | none => fun _ t => t

noncomputable def stPure (f : TT → OV) (put : AV → TT → TT) : Stp := fun _ t h => OV.casesOn (f t) .no (fun v => .yes (put v t) h)
noncomputable def stRead (f : TT → Hp → OV) (put : AV → TT → TT) : Stp := fun _ t h => OV.casesOn (f t h) .no (fun v => .yes (put v t) h)
noncomputable def stAlloc (f : TT → OA) (put : AV → TT → TT) : Stp := fun _ t h => OA.casesOn (f t) .no (fun o mk => .yes (put (mk h.nx) t) (h.new o))
noncomputable def stEff (f : TT → Hp → OVH) (put : AV → TT → TT) : Stp := fun _ t h => OVH.casesOn (f t h) .no (fun v h => .yes (put v t) h)
noncomputable def stCall (x : Get) (args : List Get) (put : AV → TT → TT) : Stp := fun call t h => OVH.casesOn (call (x t) (gets t args) h) .no (fun v h => .yes (put v t) h)

noncomputable def stOf (a : Act1) (put : AV → TT → TT) : Stp := match a with
  | .pure f => stPure f put
  | .read f => stRead f put
  | .alloc f => stAlloc f put
  | .eff f => stEff f put
  | .call x args => stCall x args put
  | .bad => fun _ _ _ => .no

/-- Is a value the truth that is wanted; of what might stand for one: no answer. -/
noncomputable def wantB (w : Bool) (v : AV) : OB := AV.casesOn v (fun _ _ _ => .yes false) (fun _ _ => .yes false) (fun _ => .yes false) (fun _ => .yes false) (fun b => Bool.casesOn w (Bool.casesOn b (.yes true) (.yes false)) (Bool.casesOn b (.yes false) (.yes true))) (fun _ => .no) (fun _ _ => .yes false)

inductive GA where
  | no
  | skip
  | at (p : Pth)

/-- Where the truth stands on which a guarded operation hangs. -/
noncomputable def guardAt (dsts : List (Option Nat)) (g : Nat) : GA := match dsts[g]? with
  | some (some d) => bif okT d then .at (pth d) else .no
  | _ => .skip

noncomputable def guarded (gp : Pth) (w : Bool) (s : Stp) (put : AV → TT → TT) : Stp := fun call t h => OB.casesOn (wantB w (TT.get gp t)) .no (fun b => Bool.casesOn b (.yes (put .undef t) h) (s call t h))
noncomputable def skipped (put : AV → TT → TT) : Stp := fun _ t h => .yes (put .undef t) h

section code
variable (P : Program) (om : OM)

noncomputable def dstOk (nt : Nat) (d : Option Nat) : Bool := match d with
  | some d => Nat.blt d nt && okT d
  | none => true

noncomputable def opC (nt : Nat) (dsts : List (Option Nat)) (o : Oper) : Stp :=
  let put := putT o.dst
  bif !dstOk nt o.dst then (fun _ _ _ => .no) else
  match o.guard with
  | none => stOf (den P om o.op) put
  | some (g, w) => match guardAt dsts g with
    | .at gp => guarded gp w (stOf (den P om o.op) put) put
    | .skip => skipped put
    | .no => fun _ _ _ => .no

noncomputable def thenR (a b : Stp) : Stp := fun call t h => RTH.casesOn (a call t h) .no (fun t h => b call t h)

noncomputable def regC (nt : Nat) (dsts : List (Option Nat)) : List Oper → Stp
  | [] => fun _ t h => .yes t h
  | o :: os => thenR (opC P om nt dsts o) (regC nt dsts os)

/-- One channel is asked, without waiting, whether it is shut (nothing is ever sent); then the rest. -/
noncomputable def selC (nt : Nat) (dsts : List (Option Nat)) (d : Option Nat) (ch : Get) (z : AV) (rest : List Oper) : Stp := fun call t h => match ch t with
  | .at (.chan r) => match h.get r with
    | some (.chan c) => regC P om nt dsts rest call (putT d (.tup [.int .i64 (bif c then .ofNat 0 else .negSucc 0), .bool false, z]) t) h
    | _ => .no
  | _ => .no

/-- A region whose order is fixed: a channel may be asked first. -/
noncomputable def regS (nt : Nat) (dsts : List (Option Nat)) (ops : List Oper) : Stp := match ops with
  | [] => regC P om nt dsts []
  | o :: rest => match o.op with
    | .select cs b => match b, cs.toList, o.guard with
      | false, [c], none => match c.send, opd c.chan, tyZeroV P c.elem with
        | none, some ch, .yes z => bif dstOk nt o.dst then selC P om nt dsts o.dst ch z rest else fun _ _ _ => .no
        | _, _, _ => fun _ _ _ => .no
      | _, _, _ => fun _ _ _ => .no
    | _ => regC P om nt dsts (o :: rest)

mutual
/-- Are two values the same: those that a reading may be asked of twice. -/
noncomputable def same : AV → AV → Bool
  | .bool a, .bool b => a == b
  | .int k a, .int k' b => eqK k k' && eqI a b
  | .at a, .at b => match a, b with
    | .str a, .str b => eqS a b
    | .nilp, .nilp | .nils, .nils | .nilm, .nilm | .nilc, .nilc | .nilf, .nilf | .nili, .nili => true
    | .ptr (.n a) i, .ptr (.n b) j | .ptr (.o a) i, .ptr (.o b) j => Nat.beq a b && Nat.beq i j
    | .slice (.n a) i l c, .slice (.n b) j m d | .slice (.o a) i l c, .slice (.o b) j m d => Nat.beq a b && Nat.beq i j && Nat.beq l m && Nat.beq c d
    | .oslice a i l z, .oslice b j m y => Nat.beq a b && Nat.beq i j && Nat.beq l m && Nat.beq z y
    | .map a, .map b | .chan a, .chan b | .yield a, .yield b | .iter a, .iter b => Nat.beq a b
    | _, _ => false
  | .fn (.func f) xs ys, .fn (.func g) us vs => Nat.beq f g && sameL xs us && sameL ys vs
  | .iface t v, .iface u w => Nat.beq t u && same v w
  | .agg xs, .agg ys | .tup xs, .tup ys => sameL xs ys
  | _, _ => false
noncomputable def sameL : List AV → List AV → Bool
  | [], [] => true
  | x :: xs, y :: ys => same x y && sameL xs ys
  | _, _ => false
end

/-- A reading that was done, and may be done later instead: its place, its way, what it read. -/
structure Rd where
  i : Nat
  f : Hp → OV
  v : AV

/-- An object that was made, and need not be there yet. -/
structure Pd where
  i : Nat
  id : Nat
  o : AObj

/-- A heap, and which of the objects made are in it. -/
structure HL where
  h : Hp
  laid : List Nat

structure DSt where
  t : TT
  h : HL                   -- with what had to be there
  old : List (Nat × HL)    -- the places of what has changed the heap, and the heap ahead of it, the last first
  rds : List Rd
  pds : List Pd            -- all objects made

inductive OD where
  | no
  | yes (s : DSt)

noncomputable def hAdd (h : Hp) (id : Nat) (o : AObj) : Hp := ⟨h.tr.put dep (some o) id, h.nx⟩

/-- Lays what stands ahead of a place by its edges. -/
noncomputable def layBefore (b : Nat) (h : HL) : List Pd → Hp
  | [] => h.h
  | p :: ps => bif b.testBit p.i && !hasN p.i h.laid then hAdd (layBefore b h ps) p.id p.o else layBefore b h ps

noncomputable def laidBefore (b : Nat) (laid : List Nat) : List Pd → List Nat
  | [] => laid
  | p :: ps => bif b.testBit p.i && !hasN p.i laid then p.i :: laidBefore b laid ps else laidBefore b laid ps

noncomputable def layRest (h : HL) : List Pd → Hp
  | [] => h.h
  | p :: ps => bif hasN p.i h.laid then layRest h ps else hAdd (layRest h ps) p.id p.o

noncomputable def bitsAt (before : List Nat) (i : Nat) : Nat := (before[i]?).getD 0

/-- Does a reading come to the same at a heap (unless what has led to it stands behind the reading by its edges). -/
noncomputable def readAt (before : List Nat) (pds : List Pd) (r : Rd) (h : HL) (done : List (Nat × HL)) : Bool :=
  bif done.any (fun p => (bitsAt before p.1).testBit r.i) then true else
  match r.f (layBefore (bitsAt before r.i) h pds) with
  | .yes u => same u r.v
  | .no => false

noncomputable def readsAt (before : List Nat) (pds : List Pd) (r : Rd) : List (Nat × HL) → Bool
  | [] => true
  | (e, h) :: rest => bif (bitsAt before r.i).testBit e then true else bif readAt before pds r h rest then readsAt before pds r rest else false

noncomputable def readsOk (before : List Nat) (s : DSt) : Bool := s.rds.all fun r => bif readAt before s.pds r s.h s.old then readsAt before s.pds r s.old else false

noncomputable def drawOp (call : CallF) (base i b : Nat) (a : Act1) (put : AV → TT → TT) (s : DSt) : OD :=
  match a with
  | .pure f => match f s.t with
    | .yes v => .yes { s with t := put v s.t }
    | .no => .no
  | .read f => match f s.t (layBefore b s.h s.pds) with
    | .yes v => .yes { s with t := put v s.t, rds := ⟨i, f s.t, v⟩ :: s.rds }
    | .no => .no
  | .alloc f => match f s.t with
    | .yes o mk => .yes { s with t := put (mk (base + i)) s.t, pds := ⟨i, base + i, o⟩ :: s.pds }
    | .no => .no
  | .eff f => bif s.old.all (fun e => b.testBit e.1) then
      match f s.t (layBefore b s.h s.pds) with
      | .yes v h => .yes { s with t := put v s.t, h := ⟨h, laidBefore b s.h.laid s.pds⟩, old := (i, s.h) :: s.old }
      | .no => .no
    else .no
  | .call x args => bif s.old.all (fun e => b.testBit e.1) then
      match call (x s.t) (gets s.t args) (layBefore b s.h s.pds) with
      | .yes v h => .yes { s with t := put v s.t, h := ⟨h, laidBefore b s.h.laid s.pds⟩, old := (i, s.h) :: s.old }
      | .no => .no
    else .no
  | .bad => .no

/-- Is an operation wanted. -/
noncomputable def wantedD (dsts : List (Option Nat)) (o : Oper) (t : TT) : OB := match o.guard with
  | none => .yes true
  | some (g, w) => match guardAt dsts g with
    | .at gp => wantB w (TT.get gp t)
    | .skip => .yes false
    | .no => .no

noncomputable def stepD (call : CallF) (dsts : List (Option Nat)) (before : List Nat) (base i : Nat) (o : Oper) (s : DSt) : OD :=
  match wantedD dsts o s.t with
  | .yes true => drawOp call base i (bitsAt before i) (den P om o.op) (putT o.dst) s
  | .yes false => .yes { s with t := putT o.dst .undef s.t }
  | .no => .no

noncomputable def drawOps (call : CallF) (dsts : List (Option Nat)) (before : List Nat) (base : Nat) : Nat → List Oper → DSt → OD
  | _, [], s => .yes s
  | i, o :: rest, s => match stepD P om call dsts before base i o s with
    | .yes s => drawOps call dsts before base (i + 1) rest s
    | .no => .no

/-- The temporaries that an operation looks at: its operands', and the one on which it hangs. -/
noncomputable def looksD (dsts : List (Option Nat)) (o : Oper) : List Nat :=
  let xs := o.op.operands.toList.filterMap fun x => match x with
    | .tmp i => some i
    | _ => none
  match o.guard with
  | none => xs
  | some (g, _) => match dsts[g]? with
    | some (some d) => d :: xs
    | _ => xs

/-- May two operations, the second behind the first in the text, be done in either order: neither looks at, or puts, what the other puts. -/
noncomputable def apartD (d : Option Nat) (l : List Nat) (d' : Option Nat) (l' : List Nat) : Bool :=
  (match d with
    | some d => !hasN d l' && (match d' with
      | some e => !Nat.beq d e
      | none => true)
    | none => true) &&
  (match d' with
    | some e => !hasN e l
    | none => true)

structure Nm where
  i : Nat
  d : Option Nat
  l : List Nat

noncomputable def apartAll (b : Nat) (d : Option Nat) (l : List Nat) : List Nm → Bool
  | [] => true
  | x :: r => bif b.testBit x.i then apartAll b d l r else bif apartD x.d x.l d l then apartAll b d l r else false

/-- Are the operations of a region such that they may be done in every order of its edges: edges go back, and what is not ordered by them is apart. -/
noncomputable def regionOk (dsts : List (Option Nat)) (before : List Nat) : Nat → List Oper → List Nm → Bool
  | _, [], _ => true
  | i, o :: rest, nms => let l := looksD dsts o
    bif Nat.blt (bitsAt before i) (Nat.pow 2 i) && apartAll (bitsAt before i) o.dst l nms then regionOk dsts before (i + 1) rest (⟨i, o.dst, l⟩ :: nms) else false

noncomputable def drawC (nt : Nat) (ops : Array Oper) : Stp :=
  let before := (Region.before ops).toList
  let dsts := ops.toList.map (·.dst)
  bif dsts.all (dstOk nt) && regionOk dsts before 0 ops.toList [] then fun call t h =>
    bif !Nat.blt (h.nx + ops.size) 1000000000000 then .no else
    match drawOps P om call dsts before h.nx 0 ops.toList ⟨t, ⟨⟨h.tr, h.nx + ops.size⟩, []⟩, [], [], []⟩ with
    | .yes s => bif readsOk before s then .yes s.t (layRest s.h s.pds) else .no
    | .no => .no
  else fun _ _ _ => .no

/-! ### code -/
inductive RC where
  | no
  | nrm (t : TT) (m : List Nat) (h : Hp)
  | ex (i : Nat) (t : TT) (m : List Nat) (h : Hp)
  | ret (t : TT) (m : List Nat) (h : Hp)

/-- Code: by a bound on rounds, what calls come to, the loop over a function whose round this is. -/
abbrev Cde := Nat → CallF → Option Nat → TT → List Nat → Hp → RC

noncomputable def cReg (s : Stp) : Cde := fun _ call _ t m h => RTH.casesOn (s call t h) .no (fun t h => .nrm t m h)
noncomputable def cSeq (a b : Cde) : Cde := fun n call rd t m h => RC.casesOn (a n call rd t m h) .no (fun t m h => b n call rd t m h) (fun i t m h => .ex i t m h) (fun t m h => .ret t m h)
noncomputable def cCond (c : Get) (a b : Cde) : Cde := fun n call rd t m h => AV.casesOn (c t) (fun _ _ _ => .no) (fun _ _ => .no) (fun _ => .no) (fun _ => .no) (fun x => Bool.casesOn x (b n call rd t m h) (a n call rd t m h)) (fun _ => .no) (fun _ _ => .no)
noncomputable def cBlk (id : Nat) (a : Cde) : Cde := fun n call rd t m h => RC.casesOn (a n call rd t m h) .no (fun t m h => .nrm t m h) (fun i t m h => bif Nat.beq i id then .nrm t m h else .ex i t m h) (fun t m h => .ret t m h)
noncomputable def cLoop (a : Cde) : Cde := fun n call rd t m h =>
  Nat.rec (motive := fun _ => TT → List Nat → Hp → RC) (fun _ _ _ => .no)
    (fun _ ih t m h => RC.casesOn (a n call rd t m h) .no (fun t m h => ih t m h) (fun i t m h => .ex i t m h) (fun t m h => .ret t m h)) n t m h

noncomputable def cRangeGo (call : CallF) (fv : AV) (t : TT) (l : Nat) (m : List Nat) (h : Hp) : RC :=
  match call fv [.at (.yield l)] h with
  | .yes _ h => match h.get l with
    | some (.loop s p nt lt ps assign body dfd) => match s with
      | .busy => .no
      | _ =>
        let h := h.set l (.loop .exhausted p nt lt ps assign body dfd)
        match p with
        | none => .nrm t m h
        | some .ret => .ret t m h
        | some (.ex i) => .ex i t m h
    | _ => .no
  | .no => .no

/-- Is this a function of the program's with a text. -/
noncomputable def hasText (fv : AV) : Bool := match fv with
  | .fn (.func f) _ _ => match P.funcs[f]? with
    | some fn => match fn.body with
      | some _ => true
      | none => false
    | none => false
  | _ => false

noncomputable def cRange (nt : Nat) (f : Get) (ps : List Nat) (assign body : Code) : Cde := fun _ call rd t m h =>
  bif !(ps.all (fun p => Nat.blt p nt && okT p) && hasText P (f t)) then .no else
  match rd with
  | none => forceN h.nx fun nx =>
    let h := h.new (.dfd true)
    cRangeGo call (f t) t (nx + 1) (nx :: m) (h.new (.loop .ready none nt t ps assign body nx))
  | some r => match h.get r with
    | some (.loop _ _ _ _ _ _ _ dfd) => forceN h.nx fun nx => cRangeGo call (f t) t nx m (h.new (.loop .ready none nt t ps assign body dfd))
    | _ => .no

noncomputable def cc (nt : Nat) : Code → Cde
  | .skip | .label _ => fun _ _ _ t m h => .nrm t m h
  | .region _ ops draw => match draw with
    | false => cReg (regS P om nt (ops.toList.map (·.dst)) ops.toList)
    | true => cReg (drawC P om nt ops)
  | .seq a b => cSeq (cc nt a) (cc nt b)
  | .cond c a b => match opd c with
    | some c => cCond c (cc nt a) (cc nt b)
    | none => fun _ _ _ _ _ _ => .no
  | .block id c => cBlk id (cc nt c)
  | .loop c => cLoop (cc nt c)
  | .exit id => fun _ _ _ t m h => .ex id t m h
  | .ret => fun _ _ _ t m h => .ret t m h
  | .rangeFunc f ps assign body => match opd f with
    | some f => cRange P nt f ps.toList assign body
    | none => fun _ _ _ _ _ _ => .no
  | _ => fun _ _ _ _ _ _ => .no

noncomputable def shutMarks : List Nat → Hp → OH
  | [], h => .yes h
  | m :: ms, h => match h.get m with
    | some (.dfd true) => shutMarks ms (h.set m (.dfd false))
    | _ => .no

noncomputable def resOf (h : Hp) (t : TT) : List ResultVar → OL
  | [] => .yes []
  | .tmp i :: r => bif okT i then match resOf h t r with
    | .yes vs => .yes (TT.get (pth i) t :: vs)
    | .no => .no
    else .no
  | .cell i ty :: r => match tySize P ty, tyAgg P ty with
    | some n, some g => bif !okT i then .no else match TT.get (pth i) t with
      | .at (.ptr b off) => match hGetN om h b off n with
        | .yes cs => match mkV g cs with
          | .yes v => match resOf h t r with
            | .yes vs => .yes (v :: vs)
            | .no => .no
          | .no => .no
        | .no => .no
      | _ => .no
    | _, _ => .no

noncomputable def retV (vs : List AV) (h : Hp) : OVH := match vs with
  | [v] => .yes v h
  | vs => .yes (.tup vs) h

noncomputable def leave (rs : List ResultVar) (t : TT) (m : List Nat) (h : Hp) : OVH :=
  match shutMarks m h with
  | .yes h => match resOf P om h t rs with
    | .yes vs => retV vs h
    | .no => .no
  | .no => .no

/-- A function entered. -/
noncomputable def enter (fuel : Nat) (call : CallF) (f : FuncId) (args : List AV) (h : Hp) : OVH :=
  match P.funcs[f]? with
  | some fn => match fn.body with
    | some c => bif !Nat.ble args.length 200 then .no else RC.casesOn (cc P om fn.ntmps c fuel call none (TT.ofL 0 args .e) [] h) .no (fun t m h => leave P om fn.results.toList t m h) (fun _ _ _ _ => .no) (fun t m h => leave P om fn.results.toList t m h)
    | none => .no
  | none => .no

noncomputable def setPs : List Nat → List AV → TT → TT
  | p :: ps, v :: vs, t => setPs ps vs (TT.set (pth p) v t)
  | _, _, t => t

noncomputable def endRound (l : Nat) (j : Option Jmp) (h : Hp) : OVH := match h.get l with
  | some (.loop _ _ nt t ps assign body dfd) => match j with
    | none => .yes (.bool true) (h.set l (.loop .ready none nt t ps assign body dfd))
    | some j => .yes (.bool false) (h.set l (.loop .done (some j) nt t ps assign body dfd))
  | _ => .no

noncomputable def runBody (fuel : Nat) (call : CallF) (l nt : Nat) (body : Code) (t : TT) (m : List Nat) (h : Hp) : OVH :=
  match h.get l with
  | some (.loop .ready p nt' lt ps assign body' dfd) =>
    RC.casesOn (cc P om nt body fuel call (some l) t m (h.set l (.loop .busy p nt' lt ps assign body' dfd))) .no
      (fun _ _ h => endRound l none h) (fun i _ _ h => endRound l (some (.ex i)) h) (fun _ _ h => endRound l (some .ret) h)
  | _ => .no

/-- A round of a loop over a function. -/
noncomputable def round (fuel : Nat) (call : CallF) (l : Nat) (args : List AV) (h : Hp) : OVH :=
  match h.get l with
  | some (.loop _ _ nt t ps assign body _) =>
    bif Nat.beq args.length ps.length then
      match cc P om nt assign fuel call (some l) (setPs ps args t) [] h with
      | .nrm t m h => runBody P om fuel call l nt body t m h
      | _ => .no
    else .no
  | _ => .no
end code

/-- Functions that are not entered: what they come to was shown elsewhere. -/
abbrev Ctr := FuncId → Option (List AV → Hp → OVH)

noncomputable def callV (P : Program) (om : OM) (C : Ctr) (fuel : Nat) : Nat → CallF
  | 0 => fun _ _ _ => .no
  | d + 1 => fun fv args h => match fv with
    | .fn (.func f) first caps => match C f with
      | some k => k (first ++ args ++ caps) h
      | none => enter P om fuel (callV P om C fuel d) f (first ++ args ++ caps) h
    | .at (.yield l) => round P om fuel (callV P om C fuel d) l args h
    | _ => .no

end Go.Ev
