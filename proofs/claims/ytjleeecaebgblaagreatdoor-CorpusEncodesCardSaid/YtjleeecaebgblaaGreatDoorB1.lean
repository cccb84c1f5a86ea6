/- Running the code, within the kernel. -/
import Derived.Test.YtjleeecaebgblaaGreatDoorA9
set_option linter.all false
namespace Go.Proofs.YtjleeecaebgblaaGreatDoor.AL
open Go.RowKit
/-! ### what makes the kernel evaluate -/
noncomputable def fnat {α : Type} (n : Nat) (k : Nat → α) : α :=
  match n with
  | 0 => k 0
  | m + 1 => k (m + 1)
noncomputable def fint {α : Type} (n : Int) (k : Int → α) : α :=
  match n with
  | .ofNat m => fnat m fun m => k (.ofNat m)
  | .negSucc m => fnat m fun m => k (.negSucc m)
noncomputable def fbool {α : Type} (b : Bool) (k : Bool → α) : α :=
  match b with
  | true => k true
  | false => k false
noncomputable def flist {α β : Type} (l : List α) : (List α → β) → β :=
  List.rec (motive := fun _ => (List α → β) → β) (fun k => k []) (fun a _ ih k => ih fun l => k (a :: l)) l
/-- Two lists, one behind the other. -/
noncomputable def fapp {α β : Type} (l r : List α) : (List α → β) → β :=
  List.rec (motive := fun _ => (List α → β) → β) (fun k => k r) (fun a _ ih k => ih fun l => k (a :: l)) l
/-- The first n, which must be there. -/
noncomputable def ftake {α β : Type} (n : Nat) : List α → (List α → Option β) → Option β :=
  Nat.rec (motive := fun _ => List α → (List α → Option β) → Option β) (fun _ k => k []) (fun _ ih l k => List.rec (motive := fun _ => Option β) none (fun a l _ => ih l fun l => k (a :: l)) l) n
/-- What is behind the first n, which must be there. -/
noncomputable def fdrop {α β : Type} (n : Nat) : List α → (List α → Option β) → Option β :=
  Nat.rec (motive := fun _ => List α → (List α → Option β) → Option β) (fun l k => k l) (fun _ ih l k => List.rec (motive := fun _ => Option β) none (fun _ l _ => ih l k) l) n
noncomputable def fz {α : Type} (v : AVal) (k : AVal → α) : α :=
  match v with
  | .any => k .any
  | .lit v => k (.lit v)
  | .agg cs => k (.agg cs)
  | .tup cs => k (.tup cs)
  | .sl n cs tk => k (.sl n cs tk)
  | .ptr id off => k (.ptr id off)
  | .ep cs => k (.ep cs)
  | .mp id => k (.mp id)
  | .ms id off n tk => k (.ms id off n tk)
  | .glob b off => k (.glob b off)
  | .fn f fs cs => k (.fn f fs cs)
  | .ifc t v => k (.ifc t v)
  | .opt b v => k (.opt b v)
  | .yld id => k (.yld id)
  | .stp s => k (.stp s)
theorem fnat_eq {α : Type} (n : Nat) (k : Nat → α) : fnat n k = k n := by cases n <;> rfl
theorem fint_eq {α : Type} (n : Int) (k : Int → α) : fint n k = k n := by cases n <;> simp [fint, fnat_eq]
theorem fbool_eq {α : Type} (b : Bool) (k : Bool → α) : fbool b k = k b := by cases b <;> rfl
theorem flist_eq {α β : Type} : ∀ (l : List α) (k : List α → β), flist l k = k l
  | [], _ => rfl
  | a :: l, k => flist_eq l fun l => k (a :: l)
theorem fapp_eq {α β : Type} : ∀ (l r : List α) (k : List α → β), fapp l r k = k (l ++ r)
  | [], _, _ => rfl
  | a :: l, r, k => fapp_eq l r fun l => k (a :: l)
theorem ftake_some {α β : Type} : ∀ (n : Nat) (l : List α) (k : List α → Option β) {x : β}, ftake n l k = some x → n ≤ l.length ∧ k (l.take n) = some x
  | 0, _, _, _, h => ⟨Nat.zero_le _, by rw [List.take_zero]; exact h⟩
  | n + 1, [], _, _, h => by cases h
  | n + 1, a :: l, k, _, h => by
    have := ftake_some n l (fun l => k (a :: l)) h
    exact ⟨by simp; exact this.1, by simpa using this.2⟩
theorem fdrop_some {α β : Type} : ∀ (n : Nat) (l : List α) (k : List α → Option β) {x : β}, fdrop n l k = some x → n ≤ l.length ∧ k (l.drop n) = some x
  | 0, _, _, _, h => ⟨Nat.zero_le _, h⟩
  | n + 1, [], _, _, h => by cases h
  | n + 1, a :: l, k, _, h => by
    have := fdrop_some n l k h
    exact ⟨by simp; exact this.1, by simpa using this.2⟩
theorem fz_eq {α : Type} (v : AVal) (k : AVal → α) : fz v k = k v := by cases v <;> rfl
/-! ### tries -/
inductive Tn (α : Type) : Nat → Type where
  | leaf (a : α) : Tn α 0
  | node {d : Nat} (l r : Tn α d) : Tn α (d + 1)
noncomputable def Tn.get {α : Type} {d : Nat} (t : Tn α d) : Nat → α :=
  Tn.rec (motive := fun _ _ => Nat → α) (fun a _ => a) (fun _ _ gl gr i => Nat.rec (motive := fun _ => α) (gl (Nat.div i 2)) (fun _ _ => gr (Nat.div i 2)) (Nat.mod i 2)) t
noncomputable def Tn.set {α β : Type} {d : Nat} (t : Tn α d) : Nat → α → (Tn α d → β) → β :=
  Tn.rec (motive := fun d _ => Nat → α → (Tn α d → β) → β) (fun _ _ a k => k (.leaf a))
    (fun l r sl sr i a k => Nat.rec (motive := fun _ => β) (sl (Nat.div i 2) a fun l => k (.node l r)) (fun _ _ => sr (Nat.div i 2) a fun r => k (.node l r)) (Nat.mod i 2)) t
/-! ### states -/
noncomputable def bS (l : List Nat) : Value := .string ⟨⟨l.map UInt8.ofNat⟩⟩
abbrev XT := Tn AVal 8
inductive XBlk where
  | cells (t : TypeId) (cs : List AVal)
  | map (kk : KeyK) (es : List (Value × AVal))
  | row (e : TypeId) (cs : List AVal)
  | dead
  | loop (st : LoopState) (pend : Option AJump) (N : Nat) (T : XT) (ps : List Nat) (a b : ACode)
  | dfr
  | mapP (kk : KeyK) (es : List (Value × AVal)) (k : Value) (s : Nat)
structure XM where
  b : Tn XBlk 13
  n : Nat
  lv : List Nat
  nx : Nat
  df : List ADef
/-- The temporaries that a trie holds. -/
noncomputable def XT.A (T : XT) : ATmps := fun t => match Nat.blt t 256 with
  | true => T.get t
  | false => .lit undef
noncomputable def XT.put {β : Type} (T : XT) (d : Option Nat) (v : AVal) (k : XT → Option β) : Option β :=
  match d with
  | none => k T
  | some d => match Nat.blt d 256 with
    | true => fz v fun v => T.set d v k
    | false => none
noncomputable def XM.get (M : XM) (id : Nat) : Option XBlk :=
  match M with
  | ⟨b, n, _, _, _⟩ => match Nat.blt id n with
    | true => some (b.get id)
    | false => none
noncomputable def XM.set {β : Type} (M : XM) (id : Nat) (x : XBlk) (k : XM → Option β) : Option β :=
  match M with
  | ⟨b, n, lv, nx, df⟩ => match Nat.blt id n && Nat.ble n 8192 with
    | true => b.set id x fun b => k ⟨b, n, lv, nx, df⟩
    | false => none
noncomputable def XM.push {β : Type} (M : XM) (x : XBlk) (k : XM → Option β) : Option β :=
  match M with
  | ⟨b, n, lv, nx, df⟩ => match Nat.blt n 8192 with
    | true => b.set n x fun b => fnat (Nat.succ n) fun n => k ⟨b, n, lv, nx, df⟩
    | false => none
noncomputable def XM.stamp {β : Type} (M : XM) (lv : List Nat) (k : Nat → XM → Option β) : Option β :=
  match M with
  | ⟨b, n, _, nx, df⟩ => fnat (Nat.succ nx) fun nx' => k nx ⟨b, n, nx :: lv, nx', df⟩
/-- A number, without the right to append. -/
noncomputable def XM.num {β : Type} (M : XM) (k : Nat → XM → Option β) : Option β :=
  match M with
  | ⟨b, n, lv, nx, df⟩ => fnat (Nat.succ nx) fun nx' => k nx ⟨b, n, lv, nx', df⟩
noncomputable def XM.defer (M : XM) (d : ADef) : XM :=
  match M with
  | ⟨b, n, lv, nx, df⟩ => ⟨b, n, lv, nx, d :: df⟩
noncomputable def bareX (M : XM) (d : List ADef) : XM :=
  match M with
  | ⟨b, n, lv, nx, _⟩ => ⟨b, n, lv, nx, d⟩
abbrev XG := Nat → Option (List AVal)
noncomputable def E0 : Tn AVal 0 := .leaf (.lit undef)
noncomputable def E1 : Tn AVal 1 := .node E0 E0
noncomputable def E2 : Tn AVal 2 := .node E1 E1
noncomputable def E3 : Tn AVal 3 := .node E2 E2
noncomputable def E4 : Tn AVal 4 := .node E3 E3
noncomputable def E5 : Tn AVal 5 := .node E4 E4
noncomputable def E6 : Tn AVal 6 := .node E5 E5
noncomputable def E7 : Tn AVal 7 := .node E6 E6
noncomputable def E8 : XT := .node E7 E7
noncomputable def ME0 : Tn XBlk 0 := .leaf .dead
noncomputable def ME1 : Tn XBlk 1 := .node ME0 ME0
noncomputable def ME2 : Tn XBlk 2 := .node ME1 ME1
noncomputable def ME3 : Tn XBlk 3 := .node ME2 ME2
noncomputable def ME4 : Tn XBlk 4 := .node ME3 ME3
noncomputable def ME5 : Tn XBlk 5 := .node ME4 ME4
noncomputable def ME6 : Tn XBlk 6 := .node ME5 ME5
noncomputable def ME7 : Tn XBlk 7 := .node ME6 ME6
noncomputable def ME8 : Tn XBlk 8 := .node ME7 ME7
noncomputable def ME9 : Tn XBlk 9 := .node ME8 ME8
noncomputable def ME10 : Tn XBlk 10 := .node ME9 ME9
noncomputable def ME11 : Tn XBlk 11 := .node ME10 ME10
noncomputable def ME12 : Tn XBlk 12 := .node ME11 ME11
noncomputable def ME13 : Tn XBlk 13 := .node ME12 ME12
/-- No memory. -/
noncomputable def XM0 : XM := { b := ME13, n := 0, lv := [], nx := 0, df := [] }
/-! ### numbers, strings -/
noncomputable def xint (k : IntKind) (n : Int) : Option AVal := fint n fun n => some (.lit (.int k n))
noncomputable def xbool (b : Bool) : Option AVal := fbool b fun b => some (.lit (.bool b))
noncomputable def halfX : IntKind → Nat
  | .i8 => 128
  | .i16 => 32768
  | .i32 => 2147483648
  | .i64 => 9223372036854775808
  | .u8 => 256
  | .u16 => 65536
  | .u32 => 4294967296
  | _ => 18446744073709551616
noncomputable def wrapX (k : IntKind) (n : Int) : Int :=
  match n with
  | .ofNat m => match Nat.blt m (halfX k) with
    | true => .ofNat m
    | false => k.wrap (.ofNat m)
  | .negSucc m => match k.signed && Nat.blt m (halfX k) with
    | true => .negSucc m
    | false => k.wrap (.negSucc m)
noncomputable def eqX (a b : Int) : Bool :=
  match a, b with
  | .ofNat a, .ofNat b => Nat.beq a b
  | .negSucc a, .negSucc b => Nat.beq a b
  | _, _ => false
noncomputable def ltX (a b : Int) : Bool :=
  match a, b with
  | .ofNat a, .ofNat b => Nat.blt a b
  | .negSucc _, .ofNat _ => true
  | .ofNat _, .negSucc _ => false
  | .negSucc a, .negSucc b => Nat.blt b a
noncomputable def kindX (k k' : IntKind) : Bool :=
  match k, k' with
  | .i8, .i8 | .i16, .i16 | .i32, .i32 | .i64, .i64 | .u8, .u8 | .u16, .u16 | .u32, .u32 | .u64, .u64 => true
  | _, _ => false
noncomputable def intBinX (op : BinOp) (k : IntKind) (a b : Int) : Option AVal :=
  match op with
  | .add => xint k (wrapX k (Int.add a b))
  | .sub => xint k (wrapX k (Int.sub a b))
  | .mul => xint k (wrapX k (Int.mul a b))
  | .quo => match eqX b 0 with
    | true => none
    | false => xint k (wrapX k (Int.tdiv a b))
  | .rem => match eqX b 0 with
    | true => none
    | false => xint k (Int.tmod a b)
  | .and => xint k (wrapX k (BitVec.ofInt k.bits a &&& BitVec.ofInt k.bits b).toNat)
  | .or => xint k (wrapX k (BitVec.ofInt k.bits a ||| BitVec.ofInt k.bits b).toNat)
  | .xor => xint k (wrapX k (BitVec.ofInt k.bits a ^^^ BitVec.ofInt k.bits b).toNat)
  | .andNot => xint k (wrapX k (BitVec.ofInt k.bits a &&& ~~~ BitVec.ofInt k.bits b).toNat)
  | .eql => xbool (eqX a b)
  | .neq => xbool (!eqX a b)
  | .lss => xbool (ltX a b)
  | .leq => xbool (!ltX b a)
  | .gtr => xbool (ltX b a)
  | .geq => xbool (!ltX a b)
  | _ => none
noncomputable def intShiftX (op : BinOp) (k : IntKind) (a b : Int) : Option AVal :=
  match b with
  | .negSucc _ => none
  | .ofNat b => match op with
    | .shl => xint k (wrapX k (Int.mul a (Int.ofNat (Nat.pow 2 (min b k.bits)))))
    | .shr => xint k (Int.fdiv a (Int.ofNat (Nat.pow 2 (min b k.bits))))
    | _ => none
noncomputable def bytesX : List UInt8 → List UInt8 → Bool
  | [], [] => true
  | a :: l, b :: r => match Nat.beq a.toNat b.toNat with
    | true => bytesX l r
    | false => false
  | _, _ => false
noncomputable def strX (a b : ByteArray) : Bool := bytesX a.data.toList b.data.toList
noncomputable def xstr (l : List UInt8) : Option AVal := flist l fun l => some (.lit (.string ⟨⟨l⟩⟩))
noncomputable def strBinX (op : BinOp) (a b : ByteArray) : Option AVal :=
  match op with
  | .add => match Nat.ble (a.data.toList.length + b.data.toList.length) 9223372036854775807 with
    | true => xstr (a.data.toList ++ b.data.toList)
    | false => none
  | .eql => xbool (strX a b)
  | .neq => xbool (!strX a b)
  | .lss => xbool (Op.bytesLess a.data.toList b.data.toList)
  | .geq => xbool (!Op.bytesLess a.data.toList b.data.toList)
  | _ => none
noncomputable def scEqX : Sc → AVal → AVal → Option Bool
  | .bool, .lit (.bool a), .lit (.bool b) => some (a == b)
  | .int, .lit (.int k a), .lit (.int k' b) => match kindX k k' with
    | true => some (eqX a b)
    | false => none
  | .str, .lit (.string a), .lit (.string b) => some (strX a b)
  | _, _, _ => none
noncomputable def nthX (n : Nat) : List AVal → Option AVal :=
  Nat.rec (motive := fun _ => List AVal → Option AVal) (fun l => List.rec (motive := fun _ => Option AVal) none (fun a _ _ => some a) l) (fun _ ih l => List.rec (motive := fun _ => Option AVal) none (fun _ l _ => ih l) l) n
noncomputable def eqFieldsX : List (Nat × Sc) → List AVal → List AVal → Option Bool
  | [], _, _ => some true
  | (o, s) :: l, xs, ys => match nthX o xs, nthX o ys with
    | some x, some y => match scEqX s x y, eqFieldsX l xs ys with
      | some a, some b => some (a && b)
      | _, _ => none
    | _, _ => none
noncomputable def eqlX (e : EqK) (cst : Bool) (x y : AVal) : Option Bool :=
  match e, x, y with
  | .bool, .lit (.bool a), .lit (.bool b) => some (a == b)
  | .agg l, .agg cs, .agg ds => eqFieldsX l cs ds
  | .ifc, .ifc _ _, .lit .nilIface => some false
  | .ifc, .lit .nilIface, .lit .nilIface => match cst with
    | true => some true
    | false => none
  | .ptr, .ptr _ _, .lit (.pointer none) => some false
  | .ptr, .lit (.pointer none), .lit (.pointer none) => some true
  | _, _, _ => none
noncomputable def binX (op : BinOp) (e : EqK) (cst : Bool) (x y : AVal) : Option AVal :=
  match x, y with
  | .lit (.int k a), .lit (.int k' b) => match op with
    | .shl | .shr => intShiftX op k a b
    | _ => match kindX k k' with
      | true => intBinX op k a b
      | false => none
  | .lit (.string a), .lit (.string b) => strBinX op a b
  | x, y => match op with
    | .eql => match eqlX e cst x y with
      | some b => xbool b
      | none => none
    | .neq => match eqlX e cst x y with
      | some b => xbool (!b)
      | none => none
    | _ => none
/-! ### operations that leave memory alone -/
/-- There must be a cell. -/
noncomputable def ne1 {β : Type} (cs : List AVal) (k : List AVal → Option β) : Option β :=
  match cs with
  | [] => none
  | a :: l => k (a :: l)
noncomputable def derefX {β : Type} (G : XG) (M : XM) (x : AVal) (k : List AVal → Option β) : Option β :=
  match x with
  | .ptr id off => match M.get id with
    | some (.cells _ cs) => fdrop off cs fun l => ne1 l k
    | some (.row _ cs) => fdrop off cs fun l => ne1 l k
    | _ => none
  | .ep cs => k cs
  | .glob b off => match G b with
    | some cs => fdrop off cs fun l => ne1 l k
    | none => none
  | _ => none
noncomputable def loadX (kd : Option Nat) (cs : List AVal) : Option AVal :=
  match kd with
  | some n => ftake n cs fun l => some (.agg l)
  | none => match cs with
    | [] => none
    | a :: _ => some a
noncomputable def partX (kd : Option Nat) (cs : List AVal) (off : Nat) : Option AVal :=
  fdrop off cs fun l => loadX kd l
noncomputable def shiftX (n : Nat) (x : AVal) : Option AVal :=
  match x with
  | .ptr id off => fnat (off + n) fun o => some (.ptr id o)
  | .ep cs => fdrop n cs fun l => some (.ep l)
  | .glob b off => fnat (off + n) fun o => some (.glob b o)
  | _ => none
noncomputable def inX {β : Type} (i : Int) (n : Nat) (k : Nat → Option β) : Option β :=
  match i with
  | .ofNat i => match Nat.blt i n with
    | true => k i
    | false => none
  | .negSucc _ => none
noncomputable def indexAddrX (r : Row) (x i : AVal) : Option AVal :=
  match r, x, i with
  | .sl _ sz, .sl n cs _, .lit (.int _ i) => inX i n fun i => fdrop (i * sz) cs fun l => some (.ep l)
  | .sl _ sz, .ms id off n _, .lit (.int _ i) => inX i n fun i => fnat (off + i * sz) fun o => some (.ptr id o)
  | .arr n _ sz, x, .lit (.int _ i) => inX i n fun i => shiftX (i * sz) x
  | _, _, _ => none
noncomputable def nthB (n : Nat) : List UInt8 → Option UInt8 :=
  Nat.rec (motive := fun _ => List UInt8 → Option UInt8) (fun l => List.rec (motive := fun _ => Option UInt8) none (fun a _ _ => some a) l) (fun _ ih l => List.rec (motive := fun _ => Option UInt8) none (fun _ l _ => ih l) l) n
noncomputable def indexX (r : Row) (kd : Option Nat) (x i : AVal) : Option AVal :=
  match r, x, i with
  | .str, .lit (.string s), .lit (.int _ i) => match i with
    | .ofNat i => match nthB i s.data.toList with
      | some b => fnat b.toNat fun b => some (.lit (.int .u8 (.ofNat b)))
      | none => none
    | .negSucc _ => none
  | .arr n _ sz, .agg cs, .lit (.int _ i) => inX i n fun i => partX kd cs (i * sz)
  | _, _, _ => none
noncomputable def convX (c : CK) (x : AVal) : Option AVal :=
  match c, x with
  | .int k, .lit (.int _ n) => xint k (wrapX k n)
  | .str, .lit (.int _ n) => xstr (Utf8.encode n).data.toList
  | .str, .lit (.string s) => some (.lit (.string s))
  | .bstr, .sl n cs _ => match Nat.beq cs.length n with
    | true => match bytesOf? cs with
      | some l => xstr l
      | none => none
    | false => none
  | .tob _, .lit (.string s) => fnat s.data.toList.length fun n => flist (aBytes s.data.toList) fun l => some (.sl n l .no)
  | _, _ => none
noncomputable def bndX {β : Type} (A : ATmps) (o : Option Operand) (d : Nat) (k : Nat → Option β) : Option β :=
  match o with
  | none => fnat d k
  | some x => match aeval A x with
    | .lit (.int _ i) => match i with
      | .ofNat i => k i
      | .negSucc _ => none
    | _ => none
noncomputable def fullX (b : Bool) : Tk :=
  match b with
  | true => .full
  | false => .no
noncomputable def sliceX (r : Row) (A : ATmps) (x : AVal) (lo hi mx : Option Operand) : Option AVal :=
  match r, x, mx with
  | .str, .lit (.string s), none => bndX A lo 0 fun lo => bndX A hi s.data.toList.length fun hi => match Nat.ble lo hi with
    | true => fdrop lo s.data.toList fun l => ftake (hi - lo) l fun l => some (.lit (.string ⟨⟨l⟩⟩))
    | false => none
  | .sl _ sz, .sl n cs tk, none => bndX A lo 0 fun lo => bndX A hi n fun hi => match Nat.ble lo hi && Nat.ble hi n with
    | true => fdrop (lo * sz) cs fun l => ftake ((hi - lo) * sz) l fun l => fnat (hi - lo) fun m => some (.sl m l (match tk with
      | .full => (fullX (Nat.beq hi n))
      | _ => .no))
    | false => none
  | .sl _ sz, .sl n cs tk, some m => match hi with
    | none => none
    | some _ => bndX A lo 0 fun lo => bndX A hi n fun hi => bndX A (some m) 0 fun mx => match Nat.ble lo hi && Nat.ble hi mx && Nat.ble mx n with
      | true => fdrop (lo * sz) cs fun l => ftake ((hi - lo) * sz) l fun l => fnat (hi - lo) fun m => some (.sl m l (fullX (Nat.beq mx hi)))
      | false => none
  | .sl _ sz, .ms id off n tk, none => bndX A lo 0 fun lo => bndX A hi n fun hi => match Nat.ble lo hi && Nat.ble hi n with
    | true => match Nat.beq lo hi with
      | true => some (.sl 0 [] .no)
      | false => fnat (off + lo * sz) fun o => fnat (hi - lo) fun m => some (.ms id o m (cutTk (Nat.beq hi n) tk))
    | false => none
  | .sl _ sz, .ms id off n tk, some m => match hi with
    | none => none
    | some _ => bndX A lo 0 fun lo => bndX A hi n fun hi => bndX A (some m) 0 fun mx => match Nat.ble lo hi && Nat.ble hi mx && Nat.ble mx n with
      | true => match Nat.beq lo hi with
        | true => some (.sl 0 [] (fullX (Nat.beq mx hi)))
        | false => fnat (off + lo * sz) fun o => fnat (hi - lo) fun m => some (.ms id o m (fullX (Nat.beq mx hi)))
      | false => none
  | .arr n _ sz, .ptr id off, none => bndX A lo 0 fun lo => bndX A hi n fun hi => match Nat.blt lo hi && Nat.ble hi n with
    | true => fnat (off + lo * sz) fun o => fnat (hi - lo) fun m => some (.ms id o m .no)
    | false => none
  | _, _, _ => none
noncomputable def keyEqX : Value → Value → Bool
  | .string a, .string b => strX a b
  | .int _ a, .int _ b => eqX a b
  | .bool a, .bool b => a == b
  | _, _ => false
noncomputable def mfindX (k : Value) (l : List (Value × AVal)) : Option AVal :=
  List.rec (motive := fun _ => Option AVal) none (fun e _ ih => match keyEqX k e.1 with
    | true => some e.2
    | false => ih) l
noncomputable def keyFitX : KeyK → Value → Bool
  | .str, .string _ => true
  | .int k, .int k' _ => kindX k' k
  | .bool, .bool _ => true
  | _, _ => false
noncomputable def kkX : KeyK → KeyK → Bool
  | .str, .str => true
  | .int a, .int b => kindX a b
  | .bool, .bool => true
  | _, _ => false
noncomputable def lookupX (kk : KeyK) (z : AVal) (M : XM) (x k : AVal) (ok : Bool) : Option AVal :=
  match k with
  | .lit k => match keyFitX kk k with
    | true => match x with
      | .mp id => match M.get id with
        | some (.map kk' es) => match kkX kk' kk with
          | true => some (lookR z ok (mfindX k es))
          | false => none
        | _ => none
      | .lit (.map none) => some (lookR z ok none)
      | _ => none
    | false => none
  | _ => none
noncomputable def assertX (z : AVal) (t : TypeId) (ok : Bool) (x : AVal) : Option AVal :=
  match x, ok with
  | .ifc u v, true => match Nat.beq u t with
    | true => some (.tup [v, .lit (.bool true)])
    | false => some (.tup [z, .lit (.bool false)])
  | .ifc u v, false => match Nat.beq u t with
    | true => some v
    | false => none
  | .lit .nilIface, true => some (.tup [z, .lit (.bool false)])
  | _, _ => none
noncomputable def lenX (l : LenK) (M : XM) (x : AVal) : Option AVal :=
  match l, x with
  | .arr n, _ => some (.lit (.int .i64 (.ofNat n)))
  | .sl, .sl n _ _ => some (.lit (.int .i64 (.ofNat n)))
  | .sl, .ms _ _ n _ => some (.lit (.int .i64 (.ofNat n)))
  | .str, .lit (.string s) => fnat s.data.toList.length fun n => some (.lit (.int .i64 (.ofNat n)))
  | .map, .mp id => match M.get id with
    | some (.map _ es) => fnat es.length fun n => some (.lit (.int .i64 (.ofNat n)))
    | _ => none
  | .map, .lit (.map none) => some (.lit (.int .i64 0))
  | _, _ => none
noncomputable def unX (op : UnOp) (x : AVal) : Option AVal :=
  match op, x with
  | .neg, .lit (.int k n) => xint k (wrapX k (Int.sub 0 n))
  | .xor, .lit (.int k n) => xint k (wrapX k (BitVec.ofInt k.bits (if k.signed then -1 else k.max) ^^^ BitVec.ofInt k.bits n).toNat)
  | .not, .lit (.bool b) => xbool (!b)
  | _, _ => none
noncomputable def pickX (c a b : AVal) : Option AVal :=
  match c with
  | .lit (.bool c) => match c with
    | true => match guardV true a with
      | .lit (.bool x) => xbool x
      | _ => none
    | false => match guardV true b with
      | .lit (.bool x) => xbool x
      | _ => none
  | _ => none
noncomputable def nilcX (x : AVal) : Option AVal :=
  match x with
  | .ptr a b => some (.ptr a b)
  | .ep l => some (.ep l)
  | .ifc a b => some (.ifc a b)
  | .glob a b => some (.glob a b)
  | .fn (.func f) a b => some (.fn (.func f) a b)
  | _ => none
noncomputable def evalsX {β : Type} (A : ATmps) (l : List Operand) : (List AVal → β) → β :=
  List.rec (motive := fun _ => (List AVal → β) → β) (fun k => k []) (fun x _ ih k => fz (aeval A x) fun v => ih fun l => k (v :: l)) l
noncomputable def partsX {β : Type} (A : ATmps) (l : List (Nat × Operand)) : (List (Nat × AVal) → β) → β :=
  List.rec (motive := fun _ => (List (Nat × AVal) → β) → β) (fun k => k []) (fun p _ ih k => fz (aeval A p.2) fun v => ih fun l => k ((p.1, v) :: l)) l
noncomputable def foldX (mx : Bool) (k : IntKind) : Int → List AVal → Option Int
  | a, [] => some a
  | a, .lit (.int k' b) :: l => match kindX k' k with
    | true => match (match mx with | true => ltX a b | false => ltX b a) with
      | true => foldX mx k b l
      | false => foldX mx k a l
    | false => none
  | _, _ => none
noncomputable def foldsX (mx : Bool) : List AVal → Option AVal
  | .lit (.int k a) :: l => match foldX mx k a l with
    | some n => xint k n
    | none => none
  | _ => none
noncomputable def vcellsX (v : AVal) : Option (List AVal) :=
  match v with
  | .agg cs => some cs
  | .any | .tup _ | .opt _ _ => none
  | .lit v => match v.oneCell' with
    | true => some [.lit v]
    | false => none
  | .sl n cs tk => some [.sl n cs tk]
  | .ptr id off => some [.ptr id off]
  | .ep cs => some [.ep cs]
  | .mp id => some [.mp id]
  | .ms id off n tk => some [.ms id off n tk]
  | .glob b off => some [.glob b off]
  | .fn f fs cs => some [.fn f fs cs]
  | .ifc t v => some [.ifc t v]
  | .yld id => some [.yld id]
  | .stp s => some [.stp s]
/-- vs over what lies at the beginning. -/
noncomputable def fover {β : Type} (vs : List AVal) : List AVal → (List AVal → Option β) → Option β :=
  List.rec (motive := fun _ => List AVal → (List AVal → Option β) → Option β) (fun cs k => k cs) (fun v _ ih cs k => List.rec (motive := fun _ => Option β) none (fun _ cs _ => ih cs fun l => k (v :: l)) cs) vs
/-- vs over what lies from off on. -/
noncomputable def fset {β : Type} (off : Nat) (cs vs : List AVal) (k : List AVal → Option β) : Option β :=
  Nat.rec (motive := fun _ => List AVal → (List AVal → Option β) → Option β) (fun cs k => fover vs cs k) (fun _ ih cs k => List.rec (motive := fun _ => Option β) none (fun c cs _ => ih cs fun l => k (c :: l)) cs) off cs k
noncomputable def fillX (pl : Places) : List AVal → List (Nat × AVal) → Option (List AVal)
  | cs, [] => some cs
  | cs, (i, v) :: rest => match pl.get i, vcellsX v with
    | some (off, size), some vs => match Nat.beq vs.length size with
      | true => fset off cs vs fun cs => fillX pl cs rest
      | false => none
    | _, _ => none
noncomputable def seqX (sz : Nat) : Nat → List (Nat × AVal) → Option (List AVal)
  | _, [] => some []
  | i, (j, v) :: rest => match vcellsX v, seqX sz (i + 1) rest with
    | some cs, some l => match Nat.beq j i && Nat.beq cs.length sz with
      | true => fapp cs l some
      | false => none
    | _, _ => none
noncomputable def idxX (c : Nat) : Nat → List UInt8 → Option AVal
  | _, [] => some (.lit (.int .i64 (.negSucc 0)))
  | i, b :: l => match Nat.beq b.toNat c with
    | true => some (.lit (.int .i64 (.ofNat i)))
    | false => fnat (i + 1) fun i => idxX c i l
noncomputable def loadO (G : XG) (A : ATmps) (M : XM) (k : Option Nat) (x : Operand) : Option AVal := derefX G M (aeval A x) fun cs => loadX k cs
noncomputable def bytesO (off n : Nat) (cs : List AVal) : Option AVal :=
  fdrop off cs fun l => ftake n l fun l => match bytesOf? l with
    | some l => xstr l
    | none => none
noncomputable def convMs (M : XM) (c : CK) (id off n : Nat) : Option AVal :=
  match c with
  | .bstr => match M.get id with
    | some (.cells _ cs) => bytesO off n cs
    | some (.row _ cs) => bytesO off n cs
    | _ => none
  | _ => none
noncomputable def convO (A : ATmps) (M : XM) (c : CK) (x : Operand) : Option AVal :=
  match aeval A x with
  | .ms id off n _ => convMs M c id off n
  | v => convX c v
noncomputable def ifaceO (A : ATmps) (t : TypeId) (x : Operand) : Option AVal := fz (aeval A x) fun v => some (.ifc t v)
noncomputable def funcO (A : ATmps) (f : Fn) (fs cs : List Operand) : Option AVal := evalsX A fs fun fs => evalsX A cs fun cs => some (.fn f fs cs)
noncomputable def fieldO (A : ATmps) (off : Nat) (k : Option Nat) (x : Operand) : Option AVal :=
  match aeval A x with
  | .agg cs => partX k cs off
  | _ => none
noncomputable def extractO (A : ATmps) (x : Operand) (i : Nat) : Option AVal :=
  match aeval A x with
  | .tup cs => nthX i cs
  | _ => none
noncomputable def maxO (A : ATmps) (mx : Bool) (xs : List Operand) : Option AVal := evalsX A xs fun xs => foldsX mx xs
noncomputable def buildO (A : ATmps) (pl : Places) (z : List AVal) (ps : List (Nat × Operand)) : Option AVal :=
  partsX A ps fun ps => match fillX pl z ps with
    | some cs => some (.agg cs)
    | none => none
noncomputable def bsliceO (A : ATmps) (sz n : Nat) (ps : List (Nat × Operand)) : Option AVal :=
  partsX A ps fun ps => match seqX sz 0 ps with
    | some cs => some (.sl n cs .full)
    | none => none
noncomputable def idxO (A : ATmps) (x c : Operand) : Option AVal :=
  match aeval A x, aeval A c with
  | .lit (.string s), .lit (.int .u8 c) => match Nat.blt c.toNat 256 with
    | true => idxX c.toNat 0 s.data.toList
    | false => none
  | _, _ => none
noncomputable def cmpX : List UInt8 → List UInt8 → AVal
  | [], [] => .lit (.int .i64 (.ofNat 0))
  | [], _ :: _ => .lit (.int .i64 (.negSucc 0))
  | _ :: _, [] => .lit (.int .i64 (.ofNat 1))
  | a :: as, b :: bs => match Nat.blt a.toNat b.toNat with
    | true => .lit (.int .i64 (.negSucc 0))
    | false => match Nat.blt b.toNat a.toNat with
      | true => .lit (.int .i64 (.ofNat 1))
      | false => cmpX as bs
noncomputable def cntX (c : Nat) : List UInt8 → (Nat → Option AVal) → Option AVal
  | [], k => k 0
  | b :: l, k => match Nat.beq b.toNat c with
    | true => cntX c l fun n => fnat (n + 1) k
    | false => cntX c l k
noncomputable def extO (A : ATmps) (k : XK) (x y : Operand) : Option AVal :=
  match k with
  | .cmp => match bOf (aeval A x), bOf (aeval A y) with
    | some s, some t => some (cmpX s.data.toList t.data.toList)
    | _, _ => none
  | .cnt => match aeval A x, aeval A y with
    | .lit (.string s), .lit (.int .u8 c) => match Nat.blt c.toNat 256 with
      | true => cntX c.toNat s.data.toList fun n => some (.lit (.int .i64 (.ofNat n)))
      | false => none
    | _, _ => none
noncomputable def QOp.x (G : XG) (o : QOp) (A : ATmps) (M : XM) : Option AVal :=
  match o with
  | .move x => some (aeval A x)
  | .pick c a b => pickX (aeval A c) (aeval A a) (aeval A b)
  | .load k x => loadO G A M k x
  | .nilc x => nilcX (aeval A x)
  | .bin op e x y => binX op e (isConstOp x || isConstOp y) (aeval A x) (aeval A y)
  | .un op x => unX op (aeval A x)
  | .conv c x => convO A M c x
  | .iface t x => ifaceO A t x
  | .func f fs cs => funcO A f fs cs
  | .slice r x lo hi mx => sliceX r A (aeval A x) lo hi mx
  | .faddr off x => shiftX off (aeval A x)
  | .field off k x => fieldO A off k x
  | .iaddr r x i => indexAddrX r (aeval A x) (aeval A i)
  | .index r k x i => indexX r k (aeval A x) (aeval A i)
  | .lookup kk z x k ok => lookupX kk z M (aeval A x) (aeval A k) ok
  | .assert z t ok x => assertX z t ok (aeval A x)
  | .extract x i => extractO A x i
  | .len l x => lenX l M (aeval A x)
  | .max xs => maxO A true xs
  | .min xs => maxO A false xs
  | .build pl z ps => buildO A pl z ps
  | .bslice sz n ps => bsliceO A sz n ps
  | .idx x c => idxO A x c
  | .ext k x y => extO A k x y
/-! ### operations that make memory, and those that change it -/
noncomputable def boxO (A : ATmps) (t : TypeId) (x : Operand) : Option (XBlk × (Nat → AVal)) :=
  match vcellsX (aeval A x) with
  | some cs => some (.cells t cs, fun id => .ptr id 0)
  | none => none
noncomputable def makeO (A : ATmps) (e : TypeId) (bytes : Nat) (zs : List AVal) (l c : Operand) : Option (XBlk × (Nat → AVal)) :=
  match aeval A l, aeval A c with
  | .lit (.int .i64 (.ofNat l)), .lit (.int .i64 (.ofNat c)) => match Nat.blt 0 l && Nat.ble l c && Nat.ble (c * bytes) 140737488355328 && Nat.ble c 140737488355328 with
    | true => flist (zeros c zs) fun cs => some (.cells e cs, fun id => .ms id 0 l (fullX (Nat.beq l c)))
    | false => none
  | _, _ => none
noncomputable def bsliceN (A : ATmps) (e : TypeId) (sz n : Nat) (ps : List (Nat × Operand)) : Option (XBlk × (Nat → AVal)) :=
  partsX A ps fun ps => match seqX sz 0 ps with
    | some cs => some (.cells e cs, fun id => .ms id 0 n .full)
    | none => none
noncomputable def NOp.x (o : NOp) (A : ATmps) : Option (XBlk × (Nat → AVal)) :=
  match o with
  | .alloc t zs => some (.cells t zs, fun id => .ptr id 0)
  | .box t x => boxO A t x
  | .makeMap kk => some (.map kk [], fun id => .mp id)
  | .make e bytes zs l c => makeO A e bytes zs l c
  | .bslice e sz n ps => bsliceN A e sz n ps
noncomputable def storeX (n : Nat) (M : XM) (x v : AVal) : Option XM :=
  match x with
  | .ptr id off => match vcellsX v with
    | some vs => match Nat.beq vs.length n && vs.all AVal.one with
      | true => match M.get id with
        | some (.cells bt cs) => fset off cs vs fun cs => M.set id (.cells bt cs) some
        | some (.row bt cs) => fset off cs vs fun cs => M.set id (.row bt cs) some
        | _ => none
      | false => none
    | none => none
  | _ => none
noncomputable def mputX {β : Type} (k : Value) (v : AVal) (l : List (Value × AVal)) : (List (Value × AVal) → β) → β :=
  List.rec (motive := fun _ => (List (Value × AVal) → β) → β) (fun c => c [(k, v)]) (fun e es ih c => match keyEqX k e.1 with
    | true => c ((k, v) :: es)
    | false => ih fun es => c (e :: es)) l
noncomputable def mapPutX (kk : KeyK) (M : XM) (m k v : AVal) : Option XM :=
  match m, k with
  | .mp id, .lit k => match M.get id with
    | some (.map kk' es) => match kkX kk' kk && keyFitX kk k with
      | true => mputX k v es fun es => M.set id (.map kk es) some
      | false => none
    | _ => none
  | _, _ => none
noncomputable def srcX {β : Type} (M : XM) (sz : Nat) (x : AVal) (k : Nat → List AVal → Option β) : Option β :=
  match x with
  | .sl m ds _ => k m ds
  | .lit (.string s) => fnat s.data.toList.length fun n => flist (aBytes s.data.toList) fun l => k n l
  | .ms id off m _ => match M.get id with
    | some (.cells _ cs) => fdrop off cs fun l => ftake (m * sz) l fun l => k m l
    | some (.row _ cs) => fdrop off cs fun l => ftake (m * sz) l fun l => k m l
    | _ => none
  | _ => none
noncomputable def memX (s : Nat) (l : List Nat) : Bool :=
  List.rec (motive := fun _ => Bool) false (fun r _ ih => match Nat.beq r s with
    | true => true
    | false => ih) l
noncomputable def dropX {β : Type} (s : Nat) (l : List Nat) : (List Nat → β) → β :=
  List.rec (motive := fun _ => (List Nat → β) → β) (fun k => k []) (fun r l ih k => match Nat.beq r s with
    | true => k l
    | false => ih fun l => k (r :: l)) l
noncomputable def appendX (e : TypeId) (sz bytes : Nat) (M : XM) (s x : AVal) : Option (AVal × XM) :=
  match s with
  | .sl n cs tk => srcX M sz x fun m ds => match Nat.beq cs.length (n * sz) && Nat.beq ds.length (m * sz) && Nat.ble ((n + m) * bytes) 140737488355328 && ds.all AVal.one with
    | true =>
      let fin := fun (lv : List Nat) => fapp cs ds fun l => fnat (n + m) fun q => M.stamp lv fun s M => some (AVal.sl q l (.own s e), M)
      match tk with
      | .full => fin M.lv
      | .own r e' => match Nat.beq e' e && memX r M.lv with
        | true => dropX r M.lv fin
        | false => none
      | _ => none
    | false => none
  | _ => none
noncomputable def appendMX (e : TypeId) (sz bytes : Nat) (M : XM) (s x : AVal) : Option (AVal × XM) :=
  srcX M sz s fun n cs => srcX M sz x fun m ds => match fullS s with
    | true => match Nat.beq m 0 with
      | true => match Nat.beq cs.length (n * sz) && Nat.beq ds.length 0 && Nat.ble (n * bytes) 140737488355328 with
        | true => some (s, M)
        | false => none
      | false => match Nat.beq cs.length (n * sz) && Nat.beq ds.length (m * sz) && Nat.ble ((n + m) * bytes) 140737488355328 with
        | true => fapp cs ds fun l => fnat (n + m) fun q => M.push (.row e l) fun M' => some (.ms M.n 0 q .row, M')
        | false => none
    | false => match s with
      | .ms id 0 n .row => match M.get id with
        | some (.row e' rs) => match Nat.beq e' e && Nat.beq rs.length (n * sz) && Nat.beq ds.length (m * sz) && Nat.ble ((n + m) * bytes) 140737488355328 && ds.all AVal.one with
          | true => fapp rs ds fun l => fnat (n + m) fun q => M.set id .dead fun M1 => M1.push (.row e l) fun M' => some (.ms M.n 0 q .row, M')
          | false => none
        | _ => none
      | _ => none
noncomputable def storeO (A : ATmps) (M : XM) (n : Nat) (x v : Operand) : Option (AVal × XM) :=
  match storeX n M (aeval A x) (aeval A v) with
  | some M => some (.any, M)
  | none => none
noncomputable def mapPutO (A : ATmps) (M : XM) (kk : KeyK) (m k v : Operand) : Option (AVal × XM) :=
  fz (aeval A v) fun v => match mapPutX kk M (aeval A m) (aeval A k) v with
    | some M => some (.any, M)
    | none => none
noncomputable def mapEntryO (A : ATmps) (M : XM) (kk : KeyK) (z : AVal) (m k : Operand) : Option (AVal × XM) :=
  match aeval A m, aeval A k with
  | .mp id, .lit k => match M.get id with
    | some (.map kk' es) => match kkX kk' kk && keyFitX kk k with
      | true => (fun v => mputX k v es fun es => M.num fun s M => M.set id (.mapP kk es k s) fun M => some (AVal.tup [v, .stp s], M)) (match mfindX k es with | some v => v | none => z)
      | false => none
    | _ => none
  | _, _ => none
noncomputable def entryO (A : ATmps) (M : XM) (m s v : Operand) : Option (AVal × XM) :=
  match aeval A m, aeval A s with
  | .mp id, .stp s => match M.get id with
    | some (.mapP kk es k s') => match Nat.beq s' s with
      | true => fz (aeval A v) fun v => mputX k v es fun es => M.set id (.map kk es) fun M => some (.any, M)
      | false => none
    | _ => none
  | _, _ => none
noncomputable def clearO (A : ATmps) (M : XM) (zs : List AVal) (x : Operand) : Option (AVal × XM) :=
  match aeval A x with
  | .sl 0 _ _ => some (.tup [], M)
  | .ms id off n _ => flist (zeros n zs) fun zs => match Nat.blt 0 n && zs.all AVal.one with
    | true => match M.get id with
      | some (.cells bt cs) => fset off cs zs fun cs => M.set id (.cells bt cs) fun M => some (.tup [], M)
      | some (.row bt cs) => fset off cs zs fun cs => M.set id (.row bt cs) fun M => some (.tup [], M)
      | _ => none
    | false => none
  | _ => none
noncomputable def markO (A : ATmps) (M : XM) (x : Operand) : Option (AVal × XM) :=
  match aeval A x with
  | .ms id 0 n .full => match M.get id with
    | some (.cells _ cs) => match Nat.beq cs.length n with
      | true => M.set id .dead fun M => some (.sl n cs .full, M)
      | false => none
    | _ => none
  | _ => none
noncomputable def EOp.x (o : EOp) (A : ATmps) (M : XM) : Option (AVal × XM) :=
  match o with
  | .store n x v => storeO A M n x v
  | .mapPut kk m k v => mapPutO A M kk m k v
  | .append e sz bytes s x => appendX e sz bytes M (aeval A s) (aeval A x)
  | .appendM e sz bytes s x => appendMX e sz bytes M (aeval A s) (aeval A x)
  | .mapEntry kk z m k => mapEntryO A M kk z m k
  | .entry m s v => entryO A M m s v
  | .clear zs x => clearO A M zs x
  | .mark x => markO A M x
noncomputable def isnilX (kd : NilK) (neg : Bool) (x : AVal) : Option Bool :=
  match kd, x with
  | .sl, .sl n _ _ => match Nat.beq n 0 with
    | true => none
    | false => some neg
  | .sl, .ms _ _ _ _ => some neg
  | .map, .mp _ => some neg
  | .map, .lit (.map none) => some (!neg)
  | .fn, .lit .nilFunc => some (!neg)
  | .fn, .fn _ _ _ => some neg
  | _, _ => none
/-! ### code -/
inductive XF where
  | ret (v : AVal) (M : XM)
  | panic (v : AVal) (M : XM)
  | fail (l : List Nat)
inductive XC where
  | norm (T : XT) (M : XM)
  | out (j : AJump) (T : XT) (M : XM)
  | pan (v : AVal) (T : Option XT) (M : XM)
  | fail (l : List Nat)
structure XCtx where
  call : FuncId → List AVal → XM → XF
  rnd : Nat → List AVal → XM → XF
  r : Option Nat
  fuel : Nat
  G : XG
  dfr : FuncId → Bool
noncomputable def xcall (C : XCtx) (o : SOp) (A : ATmps) (M : XM) : XF :=
  match o with
  | .call f args => evalsX A args fun l => C.call f l M
  | .callv x args => match aeval A x with
    | .fn (.func f) fs cs => evalsX A args fun l => fapp l cs fun l => fapp fs l fun l => C.call f l M
    | .yld id => evalsX A args fun l => C.rnd id l M
    | _ => .fail [101]
  | .panic x => match aeval A x with
    | .ifc t v => .panic (.ifc t v) M
    | _ => .fail [102]
  | _ => .fail [103]
noncomputable def orFail (i : Nat) (o : Option XC) : XC :=
  match o with
  | some r => r
  | none => .fail [i]
noncomputable def putC (i : Nat) (T : XT) (d : Option Nat) (v : AVal) (M : XM) : XC := orFail i (T.put d v fun T => some (.norm T M))
noncomputable def gdX (want : Bool) (v : AVal) : Option Bool :=
  match v with
  | .lit (.bool b) => some (b == want)
  | .opt q (.lit (.bool b)) => some (q && (b == want))
  | .opt false (.lit _) => none
  | _ => none
/-- What follows a call. -/
noncomputable def afterX (i : Nat) (d : Option Nat) (T : XT) (r : XF) : XC :=
  match r with
  | .ret v M => putC i T d v M
  | .panic v M => .pan v (some T) M
  | .fail l => .fail (i :: l)
noncomputable def XBlk.abs (P : Program) (A : XT → ATmps) (b : XBlk) : ABlk :=
  match b with
  | .cells t cs => .cells t cs
  | .map kk es => .map kk es
  | .row e cs => .row e cs
  | .loop st pend N T ps a b => .loop { st := st, pend := pend, n := N, tmps := A T, ps := ps, is := isNorm P N a b }
  | .dfr => .dfr
  | .mapP kk es k s => .mapP kk es k s
  | .dead => .dead
noncomputable def AMem.ofX (P : Program) (G : XG) (M : XM) : AMem :=
  { blks := (List.range M.n).map fun id => (M.b.get id).abs P XT.A
    lv := M.lv, nx := M.nx, gl := G, df := M.df }
noncomputable def stepQ (C : XCtx) (i : Nat) (d : Option Nat) (o : QOp) (A : ATmps) (T : XT) (M : XM) : XC :=
  match o.x C.G A M with
  | some v => putC i T d v M
  | none => .fail [i, 1]
noncomputable def stepN (i : Nat) (d : Option Nat) (o : NOp) (A : ATmps) (T : XT) (M : XM) : XC :=
  match o.x A with
  | some (b, mk) => orFail i (M.push b fun M' => T.put d (mk M.n) fun T => some (.norm T M'))
  | none => .fail [i, 2]
noncomputable def stepE (i : Nat) (d : Option Nat) (o : EOp) (A : ATmps) (T : XT) (M : XM) : XC :=
  match o.x A M with
  | some (v, M) => putC i T d v M
  | none => .fail [i, 3]
noncomputable def stepNil (i : Nat) (d : Option Nat) (kd : NilK) (neg : Bool) (v : AVal) (T : XT) (M : XM) : XC :=
  match isnilX kd neg v with
  | some b => fbool b fun b => putC i T d (.lit (.bool b)) M
  | none => .fail [i, 4]
noncomputable def stepU (C : XCtx) (i : Nat) (d : Option Nat) (op : SOp) (T : XT) (M : XM) : XC :=
  match op with
  | .q o => stepQ C i d o T.A T M
  | .n o => stepN i d o T.A T M
  | .e o => stepE i d o T.A T M
  | .isnil kd x neg => stepNil i d kd neg (aeval T.A x) T M
  | .call f args => afterX i d T (xcall C (.call f args) T.A M)
  | .callv x args => afterX i d T (xcall C (.callv x args) T.A M)
  | .inv x n args => .fail [i, 9]
  | .panic x => afterX i d T (xcall C (.panic x) T.A M)
noncomputable def stepQ1 (C : XCtx) (i : Nat) (d : Option Nat) (o : QOp) (T : XT) (M : XM) : XC :=
  match o.x C.G (stripA true T.A) M with
  | some v => fz v fun v => putC i T d (.opt true v) M
  | none => .fail [i, 5]
noncomputable def stepG1 (C : XCtx) (i : Nat) (d : Option Nat) (op : SOp) (T : XT) (M : XM) : XC :=
  match op with
  | .q o => stepQ1 C i d o T M
  | .call f args => afterX i d T (xcall C (.call f args) (stripA true T.A) M)
  | .callv x args => afterX i d T (xcall C (.callv x args) (stripA true T.A) M)
  | .panic x => afterX i d T (xcall C (.panic x) (stripA true T.A) M)
  | _ => .fail [i, 6]
noncomputable def stepG0 (P : Program) (C : XCtx) (i : Nat) (d : Option Nat) (op : SOp) (T : XT) (M : XM) : XC :=
  match op with
  | .q o => putC i T d (.opt false (o.sem (stripA false T.A) (AMem.ofX P C.G M)).v) M
  | .call _ _ => putC i T d (.opt false (.lit (.bool false))) M
  | .callv _ _ => putC i T d (.opt false (.lit (.bool false))) M
  | .panic _ => putC i T d (.opt false (.lit (.bool false))) M
  | _ => .fail [i, 7]
noncomputable def xstep (P : Program) (C : XCtx) (s : AStep) (T : XT) (M : XM) : XC :=
  match s with
  | ⟨i, d, gd, op, _, _⟩ => match gd with
    | none => stepU C i d op T M
    | some (t, want) => match gdX want (T.A t) with
      | some true => stepG1 C i d op T M
      | some false => stepG0 P C i d op T M
      | none => .fail [i, 8]
noncomputable def xbind (r : XC) (f : XT → XM → XC) : XC :=
  match r with
  | .norm T M => f T M
  | .out j T M => .out j T M
  | .pan v T M => .pan v T M
  | .fail l => .fail l
noncomputable def xsteps (P : Program) (C : XCtx) (l : List AStep) : XT → XM → XC :=
  List.rec (motive := fun _ => XT → XM → XC) (fun T M => .norm T M) (fun s _ ih T M => xbind (xstep P C s T M) ih) l
/-- Are two values the same? (Where it is not told: no.) -/
noncomputable def litX (a b : Value) : Bool :=
  match a, b with
  | .int k n, .int k' n' => kindX k k' && eqX n n'
  | .bool x, .bool y => x == y
  | .string s, .string s' => strX s s'
  | .pointer none, .pointer none => true
  | .nilIface, .nilIface => true
  | .map none, .map none => true
  | .nilFunc, .nilFunc => true
  | _, _ => false
noncomputable def tkX (a b : Tk) : Bool :=
  match a, b with
  | .no, .no => true
  | .full, .full => true
  | .row, .row => true
  | .own s e, .own s' e' => Nat.beq s s' && Nat.beq e e'
  | _, _ => false
mutual
noncomputable def sameX : AVal → AVal → Bool
  | .lit v, .lit v' => litX v v'
  | .agg l, .agg l' => samesX l l'
  | .tup l, .tup l' => samesX l l'
  | .ep l, .ep l' => samesX l l'
  | .sl n l tk, .sl n' l' tk' => Nat.beq n n' && tkX tk tk' && samesX l l'
  | .ptr i o, .ptr i' o' => Nat.beq i i' && Nat.beq o o'
  | .glob i o, .glob i' o' => Nat.beq i i' && Nat.beq o o'
  | .mp i, .mp i' => Nat.beq i i'
  | .yld i, .yld i' => Nat.beq i i'
  | .stp i, .stp i' => Nat.beq i i'
  | .ms i o n tk, .ms i' o' n' tk' => Nat.beq i i' && Nat.beq o o' && Nat.beq n n' && tkX tk tk'
  | .ifc t v, .ifc t' v' => Nat.beq t t' && sameX v v'
  | .opt b v, .opt b' v' => (b == b') && sameX v v'
  | .fn (.func f) l c, .fn (.func f') l' c' => Nat.beq f f' && samesX l l' && samesX c c'
  | _, _ => false
noncomputable def samesX : List AVal → List AVal → Bool
  | [], [] => true
  | a :: l, a' :: l' => sameX a a' && samesX l l'
  | _, _ => false
end
noncomputable def blkX (a b : XBlk) : Bool :=
  match a, b with
  | .cells t cs, .cells t' cs' => Nat.beq t t' && samesX cs cs'
  | .map kk [], .map kk' [] => kkX kk kk'
  | _, _ => false
noncomputable def rsX (rd : List Nat) (A : ATmps) : ATmps := fun t => match memX t rd with
  | true => A t
  | false => .any
abbrev XPend := List (Nat × (XM → Bool))
noncomputable def rechkX (rc : List Nat) (l : XPend) (M : XM) : Bool :=
  List.rec (motive := fun _ => Bool) true (fun x _ ih => match memX x.1 rc with
    | true => x.2 M && ih
    | false => ih) l
/-- Steps of a region that draws; k: the further steps. -/
noncomputable def oneQ (C : XCtx) (i : Nat) (d : Option Nat) (o : QOp) (A : ATmps) (pd : XPend) (T : XT) (M : XM) (k : XPend → XT → XM → XC) : XC :=
  match o.x C.G A M with
  | some v => orFail i (fz v fun v => T.put d v fun T' => some (k ((i, fun M' => match o.x C.G A M' with | some v' => sameX v' v | none => false) :: pd) T' M))
  | none => .fail [i, 11]
noncomputable def oneN (i : Nat) (d : Option Nat) (o : NOp) (A : ATmps) (pd : XPend) (T : XT) (M : XM) (k : XPend → XT → XM → XC) : XC :=
  match o.x A with
  | some (b, mk) => orFail i (M.push b fun M1 => T.put d (mk M.n) fun T => some (k ((i, fun M' => match M'.get M.n with | some b' => blkX b' b | none => false) :: pd) T M1))
  | none => .fail [i, 12]
noncomputable def oneE (i : Nat) (d : Option Nat) (rc : List Nat) (o : EOp) (A : ATmps) (pd : XPend) (T : XT) (M : XM) (k : XPend → XT → XM → XC) : XC :=
  match o.x A M with
  | some (v, M) => match rechkX rc pd M with
    | true => orFail i (T.put d v fun T => some (k pd T M))
    | false => .fail [i, 113]
  | none => .fail [i, 13]
noncomputable def afterD (i : Nat) (d : Option Nat) (rc : List Nat) (pd : XPend) (T : XT) (r : XF) (k : XPend → XT → XM → XC) : XC :=
  match r with
  | .ret v M => match rechkX rc pd M with
    | true => orFail i (T.put d v fun T => some (k pd T M))
    | false => .fail [i, 114]
  | .panic v M => match rechkX rc pd M with
    | true => .pan v (some T) M
    | false => .fail [i, 115]
  | .fail l => .fail (i :: l)
noncomputable def oneU (C : XCtx) (i : Nat) (d : Option Nat) (op : SOp) (A : ATmps) (rc : List Nat) (pd : XPend) (T : XT) (M : XM) (k : XPend → XT → XM → XC) : XC :=
  match op with
  | .q o => oneQ C i d o A pd T M k
  | .n o => oneN i d o A pd T M k
  | .e o => oneE i d rc o A pd T M k
  | .call f args => afterD i d rc pd T (xcall C (.call f args) A M) k
  | .callv x args => afterD i d rc pd T (xcall C (.callv x args) A M) k
  | .panic x => afterD i d rc pd T (xcall C (.panic x) A M) k
  | _ => .fail [i, 14]
noncomputable def oneQ1 (C : XCtx) (i : Nat) (d : Option Nat) (o : QOp) (A : ATmps) (pd : XPend) (T : XT) (M : XM) (k : XPend → XT → XM → XC) : XC :=
  match o.x C.G A M with
  | some v => orFail i (fz v fun v => T.put d (.opt true v) fun T' => some (k ((i, fun M' => match o.x C.G A M' with | some v' => sameX v' v | none => false) :: pd) T' M))
  | none => .fail [i, 15]
noncomputable def oneG1 (C : XCtx) (i : Nat) (d : Option Nat) (op : SOp) (A : ATmps) (rc : List Nat) (pd : XPend) (T : XT) (M : XM) (k : XPend → XT → XM → XC) : XC :=
  match op with
  | .q o => oneQ1 C i d o A pd T M k
  | .call f args => afterD i d rc pd T (xcall C (.call f args) A M) k
  | .callv x args => afterD i d rc pd T (xcall C (.callv x args) A M) k
  | .panic x => afterD i d rc pd T (xcall C (.panic x) A M) k
  | _ => .fail [i, 16]
noncomputable def oneG0 (P : Program) (C : XCtx) (i : Nat) (d : Option Nat) (op : SOp) (A : ATmps) (pd : XPend) (T : XT) (M : XM) (k : XPend → XT → XM → XC) : XC :=
  match op with
  | .q o => orFail i (T.put d (.opt false (o.sem A (AMem.ofX P C.G M)).v) fun T' => some (k ((i, fun _ => true) :: pd) T' M))
  | .call _ _ => orFail i (T.put d (.opt false (.lit (.bool false))) fun T => some (k pd T M))
  | .callv _ _ => orFail i (T.put d (.opt false (.lit (.bool false))) fun T => some (k pd T M))
  | .panic _ => orFail i (T.put d (.opt false (.lit (.bool false))) fun T => some (k pd T M))
  | _ => .fail [i, 17]
noncomputable def xone (P : Program) (C : XCtx) (s : AStep) (pd : XPend) (T : XT) (M : XM) (k : XPend → XT → XM → XC) : XC :=
  match s with
  | ⟨i, d, gd, op, rd, rc⟩ => match gd with
    | none => oneU C i d op (rsX rd T.A) rc pd T M k
    | some (t, want) => match gdX want (rsX rd T.A t) with
      | some true => oneG1 C i d op (stripA true (rsX rd T.A)) rc pd T M k
      | some false => oneG0 P C i d op (stripA false (rsX rd T.A)) pd T M k
      | none => .fail [i, 18]
/-- Where a store goes. -/
noncomputable def storeAt (op : SOp) (gd : Option (Nat × Bool)) (d : Option Nat) (A : ATmps) : Option (Nat × Nat × AVal × AVal) :=
  match gd, d, op with
  | none, none, .e (.store n x v) => match aeval A x with
    | .ptr id off => some (n, id, .ptr id off, aeval A v)
    | _ => none
  | _, _, _ => none
/-- Two stores in whatever order, to different blocks. -/
noncomputable def twoX (s t : AStep) (pd : XPend) (T : XT) (M : XM) : Option XM :=
  match storeAt s.op s.guard s.dst (rsX s.rd T.A), storeAt t.op t.guard t.dst (rsX t.rd T.A) with
  | some (n1, i1, x1, v1), some (n2, i2, x2, v2) => match Nat.beq i1 i2 with
    | true => none
    | false => match storeX n1 M x1 v1, storeX n2 M x2 v2 with
      | some M1, some M2 => match storeX n2 M1 x2 v2 with
        | some M3 => match rechkX s.rc pd M1 && rechkX t.rc pd M3 && rechkX t.rc pd M2 && rechkX s.rc pd M3 with
          | true => some M3
          | false => none
        | none => none
      | _, _ => none
  | _, _ => none
noncomputable def xdraw (P : Program) (C : XCtx) (l : List DStep) : XPend → XT → XM → XC :=
  List.rec (motive := fun _ => XPend → XT → XM → XC) (fun _ T M => .norm T M) (fun s _ ih pd T M => match s with
    | .one s => xone P C s pd T M ih
    | .two s t => match twoX s t pd T M with
      | some M => ih pd T M
      | none => .fail [s.i, 143]) l
/-- Temporaries that are not known any more. -/
noncomputable def hideT (ds : List Nat) : XT → (XT → Option XC) → Option XC :=
  List.rec (motive := fun _ => XT → (XT → Option XC) → Option XC) (fun T k => k T) (fun d _ ih T k => T.put (some d) .any fun T => ih T k) ds
noncomputable def hideX (ds : List Nat) (r : XC) : XC :=
  match r with
  | .pan v (some T) M => orFail 0 (hideT ds T fun T => some (.pan v (some T) M))
  | .norm T M => .norm T M
  | .fail l => .fail l
  | _ => .fail [144]
noncomputable def xiter (f : XT → XM → XC) (k : Nat) : XT → XM → XC :=
  Nat.rec (motive := fun _ => XT → XM → XC) (fun _ _ => .fail [104]) (fun _ ih T M => xbind (f T M) ih) k
noncomputable def xenter (r : Option Nat) (b : XBlk) (M : XM) (k : Nat → XM → Option XC) : Option XC :=
  match r with
  | some id => match M.get id with
    | some (.loop _ _ _ _ _ _ _) => M.push b fun M' => k M.n M'
    | _ => none
  | none => M.push .dfr fun M1 => M1.push b fun M2 => k M1.n (M2.defer (.mark M.n))
noncomputable def jumpX (j : Option AJump) (T : XT) (M : XM) : XC :=
  match j with
  | none => .norm T M
  | some j => .out j T M
noncomputable def xblock (id : Nat) (r : XC) : XC :=
  match r with
  | .norm T M => .norm T M
  | .out (.exit j) T M => match Nat.beq j id with
    | true => .norm T M
    | false => .out (.exit j) T M
  | .out .ret T M => .out .ret T M
  | .out (.goto l) T M => .out (.goto l) T M
  | .pan v T M => .pan v T M
  | .fail l => .fail l
noncomputable def xscope (r : XC) : XC :=
  match r with
  | .norm T M => .norm T M
  | .out (.exit j) T M => .out (.exit j) T M
  | .out .ret T M => .out .ret T M
  | .out (.goto l) T M => .fail [106]
  | .pan v T M => .pan v T M
  | .fail l => .fail l
noncomputable def afterRangeX (l : Nat) (T : XT) (r : XF) : XC :=
  match r with
  | .ret _ M2 => match M2.get l with
    | some (.loop .busy _ _ _ _ _ _) => .fail [108]
    | some (.loop _ pend _ _ _ _ _) => orFail 109 (M2.set l .dead fun M3 => some (jumpX pend T M3))
    | _ => .fail [110]
  | .panic v M2 => .pan v (some T) M2
  | .fail l => .fail l
noncomputable def xrange (C : XCtx) (N : Nat) (x : AVal) (ps : List Nat) (a b : ACode) (T : XT) (M : XM) : XC :=
  match x with
  | .fn (.func f) fs cs => orFail 107 (xenter C.r (.loop .ready none N T ps a b) M fun l M1 => fapp (.yld l :: []) cs fun cs => fapp fs cs fun args => some (afterRangeX l T (C.call f args M1)))
  | _ => .fail [111]
noncomputable def xdefer (C : XCtx) (x : AVal) (args : List Operand) (T : XT) (M : XM) : XC :=
  match C.r, x with
  | none, .fn (.func f) fs cs => match C.dfr f with
    | true => evalsX T.A args fun l => fapp l cs fun l => fapp fs l fun l => .norm T (M.defer (.fn f l))
    | false => .fail [112]
  | _, _ => .fail [117]
noncomputable def xcond (v : AVal) (a b : XC) : XC :=
  match v with
  | .lit (.bool t) => match t with
    | true => a
    | false => b
  | _ => .fail [105]
noncomputable def xcode (P : Program) (C : XCtx) (c : ACode) : XT → XM → XC :=
  ACode.rec (motive := fun _ => XT → XM → XC)
    (fun T M => .norm T M)
    (fun l => xsteps P C l)
    (fun l T M => hideX (dstsD l) (xdraw P C l [] T M))
    (fun _ _ a b T M => xbind (a T M) b)
    (fun c _ _ a b T M => xcond (aeval T.A c) (a T M) (b T M))
    (fun id _ c T M => xblock id (c T M))
    (fun _ c => xiter c C.fuel)
    (fun id T M => .out (.exit id) T M)
    (fun _ c T M => xscope (c T M))
    (fun _ T M => .norm T M)
    (fun l T M => .out (.goto l) T M)
    (fun T M => .out .ret T M)
    (fun N g ps a b _ _ T M => xrange C N (aeval T.A g) ps a b T M)
    (fun l x args T M => xbind (xsteps P C l T M) fun T M => xdefer C (aeval T.A x) args T M) c
/-! ### functions -/
structure XTab where
  memo : FuncId → List AVal → Option AVal
  fn : FuncId → Option AFn
  dfn : FuncId → Option ADFn
noncomputable def argsT {β : Type} (l : List AVal) : Nat → XT → (XT → Option β) → Option β :=
  List.rec (motive := fun _ => Nat → XT → (XT → Option β) → Option β) (fun _ T k => k T) (fun a _ ih i T k => T.put (some i) a fun T => ih (i + 1) T k) l
noncomputable def retX (G : XG) (T : XT) (M : XM) : List RV → Option (List AVal)
  | [] => some []
  | .tmp t :: l => match retX G T M l with
    | some vs => fz (T.A t) fun v => some (v :: vs)
    | none => none
  | .cell kd t :: l => match derefX G M (T.A t) fun cs => loadX kd cs, retX G T M l with
    | some v, some vs => some (v :: vs)
    | _, _ => none
noncomputable def leaveX (G : XG) (res : List RV) (dc : FuncId → List AVal → Option AVal → XM → Option XM) : List ADef → Option AVal → Option XT → XM → XF
  | [], none, T, M => match T with
    | some T => match retX G T M res with
      | some vs => .ret (oneOr vs) M
      | none => .fail [118]
    | none => .fail [119]
  | [], some v, _, M => .panic v M
  | .mark id :: ds, m, T, M => match M.get id with
    | some .dfr => match M.set id .dead some with
      | some M => leaveX G res dc ds m T M
      | none => .fail [120]
    | _ => .fail [121]
  | .fn f args :: ds, m, T, M => match dc f args m M with
    | some M => leaveX G res dc ds none T M
    | none => .fail [122]
/-- A deferred call. -/
noncomputable def xdcall (P : Program) (tab : XTab) (C : XCtx) (f : FuncId) (args : List AVal) (m : Option AVal) (M : XM) : Option XM :=
  match tab.dfn f with
  | some D => match Nat.ble args.length D.ntmps with
    | true => argsT args 0 E8 fun T => XT.put T (some D.d1) (recV m) fun T => XT.put T (some D.d2) (recV m) fun T => match xcode P C D.body T (bareX M []) with
      | .norm _ M' => match M'.df with
        | [] => some (bareX M' M.df)
        | _ => none
      | .out .ret _ M' => match M'.df with
        | [] => some (bareX M' M.df)
        | _ => none
      | _ => none
    | false => none
  | none => none
noncomputable def finX (P : Program) (tab : XTab) (C : XCtx) (res : List RV) (f : FuncId) (d : List ADef) (m : Option AVal) (T : Option XT) (M : XM) : XF :=
  match leaveX C.G res (xdcall P tab C) M.df m T (bareX M []) with
  | .ret v M => .ret v (bareX M d)
  | .panic v M => .panic v (bareX M d)
  | .fail l => .fail (f :: l)
noncomputable def endX (P : Program) (tab : XTab) (C : XCtx) (res : List RV) (f : FuncId) (d : List ADef) (r : XC) : XF :=
  match r with
  | .norm T M => finX P tab C res f d none (some T) M
  | .out .ret T M => finX P tab C res f d none (some T) M
  | .out (.exit _) _ _ => .fail [f, 123]
  | .out (.goto _) _ _ => .fail [f, 123]
  | .pan v T M => finX P tab C res f d (some v) T M
  | .fail l => .fail (f :: l)
noncomputable def bodyX (P : Program) (tab : XTab) (C : XCtx) (F : AFn) (f : FuncId) (args : List AVal) (M : XM) : XF :=
  match Nat.ble args.length F.ntmps, argsT args 0 E8 some with
  | true, some T => endX P tab C F.results f M.df (xcode P C F.body T (bareX M []))
  | _, _ => .fail [f, 124]
noncomputable def xfn (P : Program) (tab : XTab) (C : XCtx) (f : FuncId) (args : List AVal) (M : XM) : XF :=
  match tab.memo f args with
  | some v => .ret v M
  | none => match tab.fn f with
    | some F => bodyX P tab C F f args M
    | none => .fail [f, 125]
noncomputable def aroundT {β : Type} (ps : List Nat) : List AVal → XT → (XT → Option β) → Option β :=
  List.rec (motive := fun _ => List AVal → XT → (XT → Option β) → Option β) (fun _ T k => k T) (fun p _ ih l T k => List.rec (motive := fun _ => Option β) (k T) (fun a l _ => T.put (some p) a fun T => ih l T k) l) ps
noncomputable def roundEndX (id : Nat) (d : List ADef) (j : Option AJump) (M : XM) : XF :=
  match M.get id, M.df with
  | some (.loop _ _ N T ps a b), [] => match M.set id (.loop (bif j.isNone then .ready else .done) j N T ps a b) some with
    | some M => .ret (.lit (.bool j.isNone)) (bareX M d)
    | none => .fail [126]
  | _, _ => .fail [127]
noncomputable def roundX2 (id : Nat) (d : List ADef) (r : XC) : XF :=
  match r with
  | .norm _ M => roundEndX id d none M
  | .out j _ M => roundEndX id d (some j) M
  | .pan _ _ _ => .fail [id, 128]
  | .fail l => .fail (9999 :: l)
noncomputable def roundX1 (P : Program) (C : XCtx) (b : ACode) (id : Nat) (d : List ADef) (r : XC) : XF :=
  match r with
  | .norm T M => match M.get id with
    | some (.loop .ready p N' T' ps' a' b') => match M.set id (.loop .busy p N' T' ps' a' b') some with
      | some M2 => roundX2 id d (xcode P C b T M2)
      | none => .fail [129]
    | _ => .fail [130]
  | .fail l => .fail (9998 :: l)
  | _ => .fail [131]
noncomputable def xround (P : Program) (C : XCtx) (id : Nat) (args : List AVal) (M : XM) : XF :=
  match M.get id with
  | some (.loop _ _ N T ps a b) => match Nat.beq args.length ps.length && ps.all (fun p => Nat.blt p N), aroundT ps args T some with
    | true, some T => roundX1 P { C with r := some id } b id M.df (xcode P { C with r := some id } a T (bareX M []))
    | _, _ => .fail [132]
  | _ => .fail [133]
structure XLvl where
  call : FuncId → List AVal → XM → XF
  rnd : Nat → List AVal → XM → XF
noncomputable def XLvl.ctx (L : XLvl) (tab : XTab) (G : XG) (fuel : Nat) : XCtx := { call := L.call, rnd := L.rnd, r := none, fuel := fuel, G := G, dfr := fun f => (tab.dfn f).isSome }
/-- Calls within so many calls. -/
noncomputable def xlvl (P : Program) (tab : XTab) (G : XG) (fuel : Nat) (k : Nat) : XLvl :=
  Nat.rec (motive := fun _ => XLvl) ⟨fun f _ _ => .fail [f, 134], fun _ _ _ => .fail [135]⟩ (fun _ L => ⟨xfn P tab (L.ctx tab G fuel), xround P (L.ctx tab G fuel)⟩) k
end Go.Proofs.YtjleeecaebgblaaGreatDoor.AL
