/- Part 1 of the proof. -/
import GoSem.Core.Code
import GoSem.Core.View
import GoSem.Machine.Frame
/- The abstract evaluator: definitions alone. Typed pure data, local objects, tips; operations in a small free monad; outcomes as trees. -/
namespace Go.XE

inductive Ty where
  | int (k : IntKind) | bool | str | sl (e : Ty) | unit | pair (a b : Ty)
abbrev den : Ty → Type
  | .int _ => Int
  | .bool => Bool
  | .str => List UInt8
  | .sl e => List (den e)
  | .unit => Unit
  | .pair a b => den a × den b
def dflt : (t : Ty) → den t
  | .int _ => (0 : Int)
  | .bool => false
  | .str => []
  | .sl _ => []
  | .unit => ()
  | .pair a b => (dflt a, dflt b)
def Ty.size : Ty → Nat
  | .unit => 0
  | .pair a b => a.size + b.size
  | _ => 1
def Ty.st : List Ty → Ty
  | [] => .unit
  | a :: r => .pair a (Ty.st r)
def Ty.isSt : Ty → Bool
  | .unit | .pair _ _ => true
  | _ => false
def kindEq : (a b : IntKind) → Option (PLift (a = b))
  | .i8, .i8 => some ⟨rfl⟩ | .i16, .i16 => some ⟨rfl⟩ | .i32, .i32 => some ⟨rfl⟩ | .i64, .i64 => some ⟨rfl⟩
  | .u8, .u8 => some ⟨rfl⟩ | .u16, .u16 => some ⟨rfl⟩ | .u32, .u32 => some ⟨rfl⟩ | .u64, .u64 => some ⟨rfl⟩
  | _, _ => none
def tyEq : (a b : Ty) → Option (PLift (a = b))
  | .int j, .int k => match kindEq j k with | some ⟨h⟩ => some ⟨by rw [h]⟩ | none => none
  | .bool, .bool => some ⟨rfl⟩
  | .str, .str => some ⟨rfl⟩
  | .sl a, .sl b => match tyEq a b with | some ⟨h⟩ => some ⟨by rw [h]⟩ | none => none
  | .unit, .unit => some ⟨rfl⟩
  | .pair a b, .pair c d => match tyEq a c with
    | some ⟨h⟩ => (match tyEq b d with | some ⟨k⟩ => some ⟨by rw [h, k]⟩ | none => none)
    | none => none
  | _, _ => none
/-- A typed datum. -/
structure D where
  T : Ty
  x : den T
def D.as (d : D) (T : Ty) : Option (den T) :=
  match tyEq d.T T with
  | some ⟨h⟩ => some (h ▸ d.x)
  | none => none
def proj : (T : Ty) → den T → Nat → Option D
  | .pair a _, x, 0 => some ⟨a, x.1⟩
  | .pair _ b, x, j + 1 => proj b x.2 j
  | _, _, _ => none
def setf : (T : Ty) → den T → Nat → D → Option (den T)
  | .pair a _, x, 0, d => match d.as a with | some y => some (y, x.2) | none => none
  | .pair _ b, x, j + 1, d => match setf b x.2 j d with | some y => some (x.1, y) | none => none
  | _, _, _, _ => none
def getp : D → List Nat → Option D
  | d, [] => some d
  | d, j :: r => match proj d.T d.x j with | some e => getp e r | none => none
def setp : D → List Nat → D → Option D
  | d, [], v => match v.as d.T with | some y => some ⟨d.T, y⟩ | none => none
  | d, j :: r, v => match proj d.T d.x j with
    | some e => (match setp e r v with
      | some e' => (match setf d.T d.x j e' with | some y => some ⟨d.T, y⟩ | none => none)
      | none => none)
    | none => none
/-- The cell at which a field begins, and its type. -/
def fieldOff : Ty → Nat → Option (Nat × Ty)
  | .pair a _, 0 => some (0, a)
  | .pair a b, j + 1 => match fieldOff b j with | some (o, t) => some (a.size + o, t) | none => none
  | _, _ => none
def pathOff : Ty → List Nat → Option (Nat × Ty)
  | t, [] => some (0, t)
  | t, j :: r => match fieldOff t j with
    | some (o, u) => (match pathOff u r with | some (p, w) => some (o + p, w) | none => none)
    | none => none
/-- The cells of a type that hold slices. -/
def slOffs : Ty → List Nat
  | .sl _ => [0]
  | .pair a b => slOffs a ++ (slOffs b).map (a.size + ·)
  | _ => []

inductive Place where
  | slot (s off : Nat)
  | box (id off : Nat)
def Place.beq : Place → Place → Bool
  | .slot a b, .slot c d => Nat.beq a c && Nat.beq b d
  | .box a b, .box c d => Nat.beq a c && Nat.beq b d
  | _, _ => false

inductive V where
  | bot
  | und
  | nilsl
  | kb (b : Bool)
  | dat (d : D) (prov : Option Place)
  | rp (d : D)
  | pv (d : D)
  | bp (id : Nat) (path : List Nat) (T : Ty)
  | ep (id : Nat) (i : Int) (path : List Nat) (T : Ty)
  | own (id : Nat)
  | fn (f : FuncId) (caps : List V)
  | fun1 (A R : Ty) (g : den A → Option (den R))
  | tup (d : D)

inductive Obj where
  | box (d : D)
  | vrp (d : D)
  | vbp (id : Nat) (path : List Nat) (T : Ty)
  | arr (e : Ty) (xs : List (den e)) (frozen : Bool)

inductive Loc where
  | slot (n : Nat)
  | stip (n : Nat)
  | obj (id : Nat)
  | otip (id : Nat)
  | fresh
def Loc.beq : Loc → Loc → Bool
  | .slot a, .slot b => Nat.beq a b
  | .stip a, .stip b => Nat.beq a b
  | .obj a, .obj b => Nat.beq a b
  | .otip a, .otip b => Nat.beq a b
  | .fresh, .fresh => true
  | _, _ => false
inductive LV where
  | v (x : V)
  | t (x : List Nat)
  | o (x : Option Obj)
  | b (x : Bool)

/-- 'slots': the temporaries; 'stips', 'otips': the cells (of a temporary's value, of a local object) whose slices may be appended to in place. 'dirty': what has been written since the last test; 'all': anything may have been. -/
structure St where
  slots : List V
  stips : List (List Nat)
  objs : List (Nat × Option Obj)
  otips : List (Nat × List Nat)
  fresh : Bool
  next : Nat
  dirty : List Loc
  all : Bool
  rd : List Loc
  wr : List Loc

def lookObj (id : Nat) : List (Nat × Option Obj) → Option Obj
  | [] => none
  | (j, o) :: r => cond (Nat.beq j id) o (lookObj id r)
def setObj (id : Nat) (x : Option Obj) : List (Nat × Option Obj) → List (Nat × Option Obj)
  | [] => [(id, x)]
  | (j, o) :: r => cond (Nat.beq j id) ((j, x) :: r) ((j, o) :: setObj id x r)
def lookT (id : Nat) : List (Nat × List Nat) → List Nat
  | [] => []
  | (j, o) :: r => cond (Nat.beq j id) o (lookT id r)
def setTips (id : Nat) (x : List Nat) : List (Nat × List Nat) → List (Nat × List Nat)
  | [] => [(id, x)]
  | (j, o) :: r => cond (Nat.beq j id) ((j, x) :: r) ((j, o) :: setTips id x r)
def nthT : List (List Nat) → Nat → List Nat
  | [], _ => []
  | v :: _, 0 => v
  | _ :: r, n + 1 => nthT r n
def setT : List (List Nat) → Nat → List Nat → List (List Nat)
  | [], _, _ => []
  | _ :: r, 0, x => x :: r
  | v :: r, n + 1, x => v :: setT r n x
def hasLoc (l : Loc) : List Loc → Bool
  | [] => false
  | q :: r => q.beq l || hasLoc l r
def addLoc (l : Loc) (r : List Loc) : List Loc := cond (hasLoc l r) r (l :: r)
def nthV : List V → Nat → V
  | [], _ => .bot
  | v :: _, 0 => v
  | _ :: r, n + 1 => nthV r n
def setV : List V → Nat → V → List V
  | [], _, _ => []
  | _ :: r, 0, x => x :: r
  | v :: r, n + 1, x => v :: setV r n x
def hasN (n : Nat) : List Nat → Bool
  | [] => false
  | m :: r => Nat.beq m n || hasN n r
def beqNats : List Nat → List Nat → Bool
  | [], [] => true
  | a :: x, b :: y => Nat.beq a b && beqNats x y
  | _, _ => false

def St.get (s : St) : Loc → LV
  | .slot n => .v (nthV s.slots n)
  | .stip n => .t (nthT s.stips n)
  | .obj id => .o (lookObj id s.objs)
  | .otip id => .t (lookT id s.otips)
  | .fresh => .b s.fresh
def St.put (s : St) : Loc → LV → St
  | .slot n, .v x => { s with slots := setV s.slots n x }
  | .stip n, .t x => { s with stips := setT s.stips n x }
  | .obj id, .o x => { s with objs := setObj id x s.objs }
  | .otip id, .t x => { s with otips := setTips id x s.otips }
  | .fresh, .b b => { s with fresh := b }
  | _, _ => s

/-- The free monad in which operations are written. -/
inductive M (α : Type) : Type 1 where
  | ret (a : α)
  | get (l : Loc) (k : LV → M α)
  | put (l : Loc) (x : LV) (k : M α)
  | need (c : Bool) (k : M α)
  | opt {β : Type} (d : β) (o : Option β) (k : β → M α)
  | fail
namespace M
def bind {α β : Type} : M α → (α → M β) → M β
  | .ret a, f => f a
  | .get l k, f => .get l fun x => (k x).bind f
  | .put l x k, f => .put l x (k.bind f)
  | .need c k, f => .need c (k.bind f)
  | .opt d o k, f => .opt d o fun b => (k b).bind f
  | .fail, _ => .fail
end M
def getS (n : Nat) : M V := .get (.slot n) fun | .v x => .ret x | _ => .fail
def getST (n : Nat) : M (List Nat) := .get (.stip n) fun | .t x => .ret x | _ => .fail
def putST (n : Nat) (x : List Nat) : M Unit := .put (.stip n) (.t x) (.ret ())
def getOT (n : Nat) : M (List Nat) := .get (.otip n) fun | .t x => .ret x | _ => .fail
def putOT (n : Nat) (x : List Nat) : M Unit := .put (.otip n) (.t x) (.ret ())
/-- A temporary is written: its value, and the cells that bear a tip. -/
def setS (n : Nat) (x : V) (ts : List Nat) : M Unit := .put (.slot n) (.v x) (.put (.stip n) (.t ts) (.ret ()))
def getO (id : Nat) : M Obj := .get (.obj id) fun | .o (some x) => .ret x | _ => .fail
def setO (id : Nat) (x : Obj) : M Unit := .put (.obj id) (.o (some x)) (.ret ())
def getF : M Bool := .get .fresh fun | .b x => .ret x | _ => .fail
def setF (b : Bool) : M Unit := .put .fresh (.b b) (.ret ())
def needM (c : Bool) : M Unit := .need c (.ret ())
def optM {β : Type} (d : β) (o : Option β) : M β := .opt d o .ret
def liftO {β : Type} : Option β → M β
  | some b => .ret b
  | none => .fail
def M.guard {α : Type} (c : Bool) (m : M α) : M α := cond c m .fail

inductive Out : Type 1 where
  | norm (s : St)
  | ext (id : Nat) (s : St)
  | ret (s : St)
  | br (c : Bool) (t e : Out)
  | need (c : Bool) (o : Out)
  | opt {β : Type} (d : β) (o : Option β) (k : β → Out)
  | bad
def Out.bind : Out → (St → Out) → Out
  | .norm s, f => f s
  | .ext id s, _ => .ext id s
  | .ret s, _ => .ret s
  | .br c t e, f => .br c (t.bind f) (e.bind f)
  | .need c o, f => .need c (o.bind f)
  | .opt d o k, f => .opt d o fun b => (k b).bind f
  | .bad, _ => .bad
def mergeD (c : Bool) (a b : D) : Option D :=
  match tyEq b.T a.T with
  | some ⟨h⟩ => some ⟨a.T, cond c a.x (h ▸ b.x)⟩
  | none => none
def mergeV (c : Bool) : V → V → V
  | .dat a _, .dat b _ => match mergeD c a b with | some d => .dat d none | none => .bot
  | .dat a _, .kb b => match mergeD c a ⟨.bool, b⟩ with | some d => .dat d none | none => .bot
  | .kb a, .dat b _ => match mergeD c ⟨.bool, a⟩ b with | some d => .dat d none | none => .bot
  | .kb a, .kb b => .dat ⟨.bool, cond c a b⟩ none
  | .rp a, .rp b => match mergeD c a b with | some d => .rp d | none => .bot
  | .bp i p T, .bp j q U => match tyEq U T with | some _ => cond (Nat.beq i j && beqNats p q) (.bp i p T) .bot | none => .bot
  | .own i, .own j => cond (Nat.beq i j) (.own i) .bot
  | _, _ => .bot
def mergeObj (c : Bool) : Option Obj → Option Obj → Option Obj
  | some (.box a), some (.box b) => match mergeD c a b with | some d => some (.box d) | none => none
  | some (.arr e xs f), some (.arr e' ys g) => match tyEq e' e with
    | some ⟨h⟩ => some (.arr e (cond c xs (h ▸ ys)) (f || g))
    | none => none
  | _, _ => none
def bothN (t : List Nat) : List Nat → List Nat
  | [] => []
  | p :: r => cond (hasN p t) (p :: bothN t r) (bothN t r)
/-- Two states that a test has parted, joined at the places that either has written. -/
def joinLoc (c : Bool) (s t : St) (l : Loc) (r : St) : St :=
  match l with
  | .slot n => { r with slots := setV r.slots n (mergeV c (nthV s.slots n) (nthV t.slots n)) }
  | .stip n => { r with stips := setT r.stips n (bothN (nthT s.stips n) (nthT t.stips n)) }
  | .obj id => { r with objs := setObj id (mergeObj c (lookObj id s.objs) (lookObj id t.objs)) r.objs }
  | .otip id => { r with otips := setTips id (bothN (lookT id s.otips) (lookT id t.otips)) r.otips }
  | .fresh => r
def joinLocs (c : Bool) (s t : St) : List Loc → St → St
  | [], r => r
  | l :: q, r => joinLocs c s t q (joinLoc c s t l r)
def mergeVs (c : Bool) : List V → List V → List V
  | a :: x, b :: y => mergeV c a b :: mergeVs c x y
  | _, _ => []
def bothTs : List (List Nat) → List (List Nat) → List (List Nat)
  | a :: x, b :: y => bothN a b :: bothTs x y
  | _, _ => []
def mergeObjs (c : Bool) (t : List (Nat × Option Obj)) : List (Nat × Option Obj) → List (Nat × Option Obj)
  | [] => []
  | (i, o) :: r => (i, mergeObj c o (lookObj i t)) :: mergeObjs c t r
def bothOs (t : List (Nat × List Nat)) : List (Nat × List Nat) → List (Nat × List Nat)
  | [] => []
  | (i, o) :: r => (i, bothN o (lookT i t)) :: bothOs t r
def addLocs : List Loc → List Loc → List Loc
  | [], r => r
  | l :: q, r => addLocs q (addLoc l r)
def joinSt (d0 : List Loc) (a0 c : Bool) (s t : St) : St :=
  let n := Nat.max s.next t.next
  cond (s.all || t.all)
    { slots := mergeVs c s.slots t.slots, stips := bothTs s.stips t.stips, objs := mergeObjs c t.objs s.objs, otips := bothOs t.otips s.otips, fresh := false, next := n, dirty := [], all := true, rd := [], wr := [] }
    (let d := addLocs s.dirty t.dirty
     let r := joinLocs c s t d s
     { r with fresh := false, next := n, dirty := addLocs d d0, all := a0, rd := [], wr := [] })
def join2 (d0 : List Loc) (a0 c : Bool) (s : St) : Out → Out
  | .norm t => .norm (joinSt d0 a0 c s t)
  | .need n o => .need (cond c true n) (join2 d0 a0 c s o)
  | .opt d o k => .opt d (cond c (some d) o) fun b => join2 d0 a0 c s (k b)
  | _ => .bad
def join1 (d0 : List Loc) (a0 c : Bool) (e : Out) : Out → Out
  | .norm s => join2 d0 a0 c s e
  | .need n o => .need (cond c n true) (join1 d0 a0 c e o)
  | .opt d o k => .opt d (cond c o (some d)) fun b => join1 d0 a0 c e (k b)
  | _ => .bad
def St.addDirty (d0 : List Loc) (a0 : Bool) (s : St) : St := { s with dirty := addLocs s.dirty d0, all := s.all || a0 }
def Out.addDirty (d0 : List Loc) (a0 : Bool) : Out → Out
  | .norm s => .norm (s.addDirty d0 a0)
  | .ext id s => .ext id (s.addDirty d0 a0)
  | .ret s => .ret (s.addDirty d0 a0)
  | .br c t e => .br c (t.addDirty d0 a0) (e.addDirty d0 a0)
  | .need c o => .need c (o.addDirty d0 a0)
  | .opt d o k => .opt d o fun b => (k b).addDirty d0 a0
  | .bad => .bad
def Out.leafSt : Out → Option St
  | .norm s => some s
  | .need _ o => o.leafSt
  | .opt d _ k => (k d).leafSt
  | _ => none
/-- Would a join lose a function value? -/
def fnClash (s t : St) : List Loc → Bool
  | [] => false
  | .slot n :: l => (match nthV s.slots n, nthV t.slots n with
    | .fn f _, .fn g _ => !(Nat.beq f g)
    | _, _ => false) || fnClash s t l
  | _ :: l => fnClash s t l
def joinable (a b : Out) : Bool :=
  match a.leafSt, b.leafSt with
  | some s, some t => !fnClash s t (addLocs s.dirty t.dirty)
  | _, _ => false
/-- A test: both ways begin with nothing dirty; 'd0', 'a0' are what was dirty before it. -/
def mkBr (d0 : List Loc) (a0 c : Bool) (t e : Out) : Out :=
  cond (joinable t e) (join1 d0 a0 c e t) (.br c (t.addDirty d0 a0) (e.addDirty d0 a0))

def runM {α : Type} : M α → St → (α → St → Out) → Out
  | .ret a, s, k => k a s
  | .get l m, s, k => runM (m (s.get l)) { s with rd := addLoc l s.rd } k
  | .put l x m, s, k => runM m { s.put l x with wr := addLoc l s.wr, dirty := addLoc l s.dirty } k
  | .need c m, s, k => .need c (runM m s k)
  | .opt d o m, s, k => .opt d o fun b => runM (m b) s k
  | .fail, _, _ => .bad

end Go.XE
/- The abstract evaluator: operations, regions, code, functions. Definitions alone. -/
namespace Go.XE

instance : Monad M := {
  pure := .ret
  bind := M.bind }

/-! ### Shapes of states: at a loop's head, at its ends, at a function's entry -/
inductive SK where
  | dat (T : Ty) (tips : List Nat)
  | rp (T : Ty)
  | pv (T : Ty)
  | bp (id : Nat) (path : List Nat) (T : Ty)
  | own (id : Nat)
  | fun1 (A R : Ty)
  | fnb (f : FuncId) (cs : List (Nat × List Nat × Ty))
inductive OK where
  | box (T : Ty) (tips : List Nat)
  | vrp (T : Ty)
  | vbp (id : Nat) (path : List Nat) (T : Ty)
  | arr (e : Ty)
structure Skel where
  slots : List (Nat × SK)
  objs : List (Nat × OK)
  ntmps : Nat
  next : Nat
def objsX : List (Nat × OK) → Ty
  | [] => .unit
  | (_, .box T _) :: r => .pair T (objsX r)
  | (_, .vrp T) :: r => .pair T (objsX r)
  | (_, .vbp _ _ _) :: r => objsX r
  | (_, .arr e) :: r => .pair (.sl e) (objsX r)
def slotsH : List (Nat × SK) → Type
  | [] => Unit
  | (_, .dat T _) :: r => den T × slotsH r
  | (_, .rp T) :: r => den T × slotsH r
  | (_, .pv T) :: r => den T × slotsH r
  | (_, .bp _ _ _) :: r => slotsH r
  | (_, .own _) :: r => slotsH r
  | (_, .fun1 A R) :: r => (den A → Option (den R)) × slotsH r
  | (_, .fnb _ _) :: r => slotsH r
def dfltS : (l : List (Nat × SK)) → slotsH l
  | [] => ()
  | (_, .dat T _) :: r => (dflt T, dfltS r)
  | (_, .rp T) :: r => (dflt T, dfltS r)
  | (_, .pv T) :: r => (dflt T, dfltS r)
  | (_, .bp _ _ _) :: r => dfltS r
  | (_, .own _) :: r => dfltS r
  | (_, .fun1 _ _) :: r => (fun _ => none, dfltS r)
  | (_, .fnb _ _) :: r => dfltS r
def Skel.H (k : Skel) : Type := slotsH k.slots × den (objsX k.objs)
def Skel.dflt (k : Skel) : k.H := (dfltS k.slots, XE.dflt (objsX k.objs))

/-- What a call hands back: the result, and what the objects that it changes then hold. -/
def outTy (R : Ty) : List (Nat × OK) → Ty
  | [] => R
  | o :: l => .pair R (objsX (o :: l))
def splitO (R : Ty) : (l : List (Nat × OK)) → den (outTy R l) → den R × den (objsX l)
  | [], r => (r, ())
  | _ :: _, r => r
def packO (R : Ty) : (l : List (Nat × OK)) → den R → den (objsX l) → den (outTy R l)
  | [], r, _ => r
  | _ :: _, r, m => (r, m)
/-- What is known of a function: the state at its entry (the arguments in slots 0, 1, ..; 'bp': a box that it changes), the result's type (several results: a struct of them), the result's cells that bear a tip, and what it computes. -/
structure Spec where
  head : Skel
  R : Ty
  multi : Bool := false
  total : Bool := false
  tips : List Nat := []
  F : head.H → Option (den (outTy R head.objs))
/-- 'pts': types of pointers. 'vars': bit t: temporary t is written by unguarded assignments alone. 'inls': calls that are entered in place (region, number of the operation). -/
structure Env where
  τ : TypeId → Option Ty
  pts : List Nat
  glob : Nat → Option D
  Φ : FuncId → Option Spec
  loops : Nat → Option (St → Out)
  res : List Nat
  vars : Nat
  inls : Nat → Nat → Option (Nat → Oper → St → Out) := fun _ _ => none

def lim : Nat := 4294967296

def constV : Value → V
  | .int k n => .dat ⟨.int k, n⟩ none
  | .bool b => .kb b
  | .string s => .dat ⟨.str, s.data.toList⟩ none
  | .slice none 0 0 => .nilsl
  | _ => .bot
section
variable (Γ : Env)
/-- The type of number t is read as T. -/
def chkT (t : TypeId) (T : Ty) : M Unit :=
  match Γ.τ t with
  | some U => (match tyEq U T with | some _ => .ret () | none => .fail)
  | none => .fail
def chkSl (t : TypeId) : M Unit :=
  match Γ.τ t with
  | some (.sl _) => .ret ()
  | _ => .fail
def chkP (t : TypeId) : M Unit := cond (hasN t Γ.pts) (.ret ()) .fail
def opnd : Operand → M V
  | .tmp t => getS t
  | .const v => .ret (constV v)
  | .global g => match Γ.glob g with | some d => .ret (.rp d) | none => .fail
  | .func f => .ret (.fn f [])
/-- The tips of an operand that is a temporary, taken. -/
def takeTips : Operand → M (List Nat)
  | .tmp t => (getST t).bind fun ts => match ts with
    | [] => .ret []
    | ts => (putST t []).bind fun _ => .ret ts
  | _ => .ret []
def inRange (o n : Nat) : List Nat → List Nat
  | [] => []
  | t :: r => cond (Nat.ble o t && Nat.blt t (o + n)) ((t - o) :: inRange o n r) (inRange o n r)
def outRange (o n : Nat) : List Nat → List Nat
  | [] => []
  | t :: r => cond (Nat.ble o t && Nat.blt t (o + n)) (outRange o n r) (t :: outRange o n r)
def shiftN (o : Nat) : List Nat → List Nat
  | [] => []
  | t :: r => (o + t) :: shiftN o r
/-- The tips of the place from which a value was copied, taken. -/
def steal (T : Ty) : Option Place → M (List Nat)
  | none => .ret []
  | some (.slot s o) => getF.bind fun f => cond f ((getST s).bind fun ts => (putST s (outRange o T.size ts)).bind fun _ => .ret (inRange o T.size ts)) (.ret [])
  | some (.box i o) => getF.bind fun f => cond f ((getOT i).bind fun ts => (putOT i (outRange o T.size ts)).bind fun _ => .ret (inRange o T.size ts)) (.ret [])
/-- As a datum; a made array is frozen by it. -/
def asD : V → M D
  | .dat d _ => .ret d
  | .kb b => .ret ⟨.bool, b⟩
  | .own i => (getO i).bind fun
    | .arr e xs _ => (setO i (.arr e xs true)).bind fun _ => .ret ⟨.sl e, xs⟩
    | _ => .fail
  | _ => .fail
def datD : V → M D
  | .dat d _ => .ret d
  | .kb b => .ret ⟨.bool, b⟩
  | _ => .fail
/-- As a datum that is only looked at. -/
def peekD : V → M D
  | .dat d _ => .ret d
  | .kb b => .ret ⟨.bool, b⟩
  | .own i => (getO i).bind fun
    | .arr e xs _ => .ret ⟨.sl e, xs⟩
    | _ => .fail
  | _ => .fail
def asT (T : Ty) (v : V) : M (den T) :=
  match v, T with
  | .nilsl, .sl e => .ret ([] : List (den e))
  | v, T => (asD v).bind fun d => liftO (d.as T)
def peekT (T : Ty) (v : V) : M (den T) :=
  match v, T with
  | .nilsl, .sl e => .ret ([] : List (den e))
  | v, T => (peekD v).bind fun d => liftO (d.as T)
def tipsFor (v : V) (ts : List Nat) : List Nat :=
  match v with
  | .nilsl => [0]
  | .dat _ _ => ts
  | _ => []
def datT (T : Ty) (v : V) : M (den T) :=
  match v, T with
  | .nilsl, .sl e => .ret ([] : List (den e))
  | v, T => (datD v).bind fun d => liftO (d.as T)
def asIntV : V → M (IntKind × Int)
  | .dat ⟨.int k, n⟩ _ => .ret (k, n)
  | _ => .fail
def boolV : V → M Bool
  | .dat ⟨.bool, b⟩ _ => .ret b
  | .kb b => .ret b
  | _ => .fail
def ofD (d : D) : V := .dat d none
def ofB (b : Bool) : V := .dat ⟨.bool, b⟩ none
def ofI (n : Int) : V := .dat ⟨.int .i64, n⟩ none

def bitsOp (op : BinOp) (k : IntKind) (a b : Int) : Int :=
  match op with
  | .and => k.wrap ((BitVec.ofInt k.bits a &&& BitVec.ofInt k.bits b).toNat : Int)
  | .or => k.wrap ((BitVec.ofInt k.bits a ||| BitVec.ofInt k.bits b).toNat : Int)
  | .xor => k.wrap ((BitVec.ofInt k.bits a ^^^ BitVec.ofInt k.bits b).toNat : Int)
  | _ => k.wrap ((BitVec.ofInt k.bits a &&& ~~~(BitVec.ofInt k.bits b)).toNat : Int)
def shlI (k : IntKind) (a b : Int) : Int := k.wrap (a * 2 ^ min b.toNat k.bits)
def shrI (k : IntKind) (a b : Int) : Int := a.fdiv (2 ^ min b.toNat k.bits)
def intOp (op : BinOp) (k : IntKind) (a b : Int) : M D :=
  match op with
  | .and => .ret ⟨.int k, bitsOp .and k a b⟩
  | .or => .ret ⟨.int k, bitsOp .or k a b⟩
  | .xor => .ret ⟨.int k, bitsOp .xor k a b⟩
  | .andNot => .ret ⟨.int k, bitsOp .andNot k a b⟩
  | .add => .ret ⟨.int k, k.wrap (a + b)⟩
  | .sub => .ret ⟨.int k, k.wrap (a - b)⟩
  | .mul => .ret ⟨.int k, k.wrap (a * b)⟩
  | .quo => (needM (!(b == 0))).bind fun _ => .ret ⟨.int k, k.wrap (a.tdiv b)⟩
  | .rem => (needM (!(b == 0))).bind fun _ => .ret ⟨.int k, a.tmod b⟩
  | .eql => .ret ⟨.bool, a == b⟩
  | .neq => .ret ⟨.bool, a != b⟩
  | .lss => .ret ⟨.bool, decide (a < b)⟩
  | .leq => .ret ⟨.bool, decide (a ≤ b)⟩
  | .gtr => .ret ⟨.bool, decide (a > b)⟩
  | .geq => .ret ⟨.bool, decide (a ≥ b)⟩
  | _ => .fail
def strLess : List UInt8 → List UInt8 → Bool
  | _, [] => false
  | [], _ :: _ => true
  | a :: x, b :: y => a < b || (a == b && strLess x y)
def strOp (op : BinOp) (a b : List UInt8) : M D :=
  match op with
  | .add => (needM (Nat.ble (a.length + b.length) lim)).bind fun _ => .ret ⟨.str, a ++ b⟩
  | .eql => .ret ⟨.bool, a == b⟩
  | .neq => .ret ⟨.bool, !(a == b)⟩
  | .lss => .ret ⟨.bool, strLess a b⟩
  | .leq => .ret ⟨.bool, strLess a b || a == b⟩
  | .gtr => .ret ⟨.bool, !(strLess a b || a == b)⟩
  | .geq => .ret ⟨.bool, !strLess a b⟩
  | _ => .fail
def binD (op : BinOp) (t : TypeId) : D → D → M D
  | ⟨.int j, a⟩, ⟨.int k, b⟩ => match op with
    | .shl => (needM (decide (0 ≤ b))).bind fun _ => .ret ⟨.int j, shlI j a b⟩
    | .shr => (needM (decide (0 ≤ b))).bind fun _ => .ret ⟨.int j, shrI j a b⟩
    | op => match kindEq j k with | some _ => intOp op j a b | none => .fail
  | ⟨.str, a⟩, ⟨.str, b⟩ => strOp op a b
  | ⟨.bool, a⟩, ⟨.bool, b⟩ => (chkT Γ t .bool).bind fun _ => match op with | .eql => .ret ⟨.bool, a == b⟩ | .neq => .ret ⟨.bool, !(a == b)⟩ | _ => .fail
  | _, _ => .fail
def unD (op : UnOp) : D → M D
  | ⟨.bool, b⟩ => match op with | .not => .ret ⟨.bool, !b⟩ | _ => .fail
  | ⟨.int k, n⟩ => match op with | .neg => .ret ⟨.int k, k.wrap (0 - n)⟩ | .xor => .ret ⟨.int k, bitsOp .xor k (if k.signed then -1 else k.max) n⟩ | _ => .fail
  | _ => .fail

/-- What stands at an address, and the place if it is a local box. -/
def loadP : V → M (D × Option Place)
  | .rp d => .ret (d, none)
  | .bp i p _ => (getO i).bind fun
    | .box d => (liftO (getp d p)).bind fun x => (liftO (pathOff d.T p)).bind fun q => .ret (x, some (.box i q.1))
    | _ => .fail
  | .ep i n p _ => (getO i).bind fun
    | .arr e xs _ => (liftO (getp ⟨e, xs.getD n.toNat (dflt e)⟩ p)).bind fun x => .ret (x, none)
    | _ => .fail
  | _ => .fail
def storeP (t : TypeId) (x : Operand) (v : V) : V → M Unit
  | .bp i p T => (chkT Γ t T).bind fun _ => (getO i).bind fun
    | .box d => (liftO (pathOff d.T p)).bind fun q => (asT q.2 v).bind fun y => (takeTips x).bind fun ts =>
        (liftO (setp d p ⟨q.2, y⟩)).bind fun d' => (setO i (.box d')).bind fun _ => (getOT i).bind fun os =>
        (putOT i (outRange q.1 q.2.size os ++ shiftN q.1 (inRange 0 q.2.size (tipsFor v ts)))).bind fun _ => setF false
    | _ => .fail
  | .ep i n p T => (chkT Γ t T).bind fun _ => (getO i).bind fun
    | .arr e xs fr => cond fr .fail ((liftO (pathOff e p)).bind fun q => (datT q.2 v).bind fun y =>
        (liftO (setp ⟨e, xs.getD n.toNat (dflt e)⟩ p ⟨q.2, y⟩)).bind fun d => (liftO (d.as e)).bind fun z =>
        (setO i (.arr e (xs.set n.toNat z) false)).bind fun _ => setF false)
    | _ => .fail
  | _ => .fail
def fieldP (t : TypeId) (j : Nat) : V → M V
  | .rp d => (chkT Γ t d.T).bind fun _ => (liftO (proj d.T d.x j)).bind fun e => .ret (.rp e)
  | .bp i p T => (chkT Γ t T).bind fun _ => (liftO (fieldOff T j)).bind fun q => .ret (.bp i (p ++ [j]) q.2)
  | .ep i n p T => (chkT Γ t T).bind fun _ => (liftO (fieldOff T j)).bind fun q => .ret (.ep i n (p ++ [j]) q.2)
  | _ => .fail
def indexP (t : TypeId) (n : Int) : V → M V
  | .dat ⟨.sl e, xs⟩ _ => (chkT Γ t (.sl e)).bind fun _ => (needM (decide (0 ≤ n) && decide (n < xs.length))).bind fun _ => .ret (.rp ⟨e, xs.getD n.toNat (dflt e)⟩)
  | .own i => (getO i).bind fun
    | .arr e xs _ => (chkT Γ t (.sl e)).bind fun _ => (needM (decide (0 ≤ n) && decide (n < xs.length))).bind fun _ => .ret (.ep i n [] e)
    | _ => .fail
  | _ => .fail
def lenD (t : TypeId) : V → M Int
  | .dat ⟨.sl _, xs⟩ _ => (chkSl Γ t).bind fun _ => .ret xs.length
  | .dat ⟨.str, xs⟩ _ => (chkT Γ t .str).bind fun _ => .ret xs.length
  | .nilsl => (chkSl Γ t).bind fun _ => .ret 0
  | .own i => (getO i).bind fun
    | .arr _ xs _ => (chkSl Γ t).bind fun _ => .ret xs.length
    | _ => .fail
  | _ => .fail
def cutL {α : Type} (xs : List α) : Option Int → Option Int → M (List α)
  | none, none => .ret xs
  | some l, none => (needM (decide (0 ≤ l) && decide (l ≤ xs.length))).bind fun _ => .ret (xs.drop l.toNat)
  | none, some h => (needM (decide (0 ≤ h) && decide (h ≤ xs.length))).bind fun _ => .ret (xs.take h.toNat)
  | some l, some h => (needM (decide (0 ≤ l) && decide (l ≤ h) && decide (h ≤ xs.length))).bind fun _ => .ret ((xs.take h.toNat).drop l.toNat)
def cutD (t : TypeId) (lo hi : Option Int) : D → M D
  | ⟨.sl e, xs⟩ => (chkT Γ t (.sl e)).bind fun _ => (cutL (α := den e) xs lo hi).bind fun ys => .ret ⟨.sl e, ys⟩
  | ⟨.str, xs⟩ => (chkT Γ t .str).bind fun _ => (cutL (α := UInt8) xs lo hi).bind fun ys => .ret ⟨.str, ys⟩
  | _ => .fail
def opndI : Option Operand → M (Option Int)
  | none => .ret none
  | some x => (opnd Γ x).bind fun v => (asIntV v).bind fun n => .ret (some n.2)
/-- The right to append to what an operand holds: its own tip, or that of the place from which it was copied. -/
def tipOf (x : Operand) (p : Option Place) : M Unit :=
  (takeTips x).bind fun ts => match ts with
  | [] => (steal .str p).bind fun us => cond (hasN 0 us) (.ret ()) .fail
  | ts => cond (hasN 0 ts) (.ret ()) .fail
def appendD (t u : TypeId) (x : Operand) (v : V) (w : V) : M D :=
  match v with
  | .nilsl => (match w with
    | .nilsl => .fail
    | w => (asD w).bind fun
      | ⟨.sl e, ys⟩ => (chkT Γ t (.sl e)).bind fun _ => M.guard (Nat.beq t u) ((needM (Nat.ble (List.length (α := den e) ys) lim)).bind fun _ => .ret ⟨.sl e, ys⟩)
      | _ => .fail)
  | .dat ⟨.sl e, xs⟩ p => (chkT Γ t (.sl e)).bind fun _ => M.guard (Nat.beq t u) ((asT (.sl e) w).bind fun ys => (tipOf x p).bind fun _ =>
      (needM (Nat.ble (List.length (α := den e) xs + List.length (α := den e) ys) lim)).bind fun _ => .ret ⟨.sl e, List.append (α := den e) xs ys⟩)
  | _ => .fail
def buildD (T : Ty) : List (Nat × Operand) → D → List Nat → M (D × List Nat)
  | [], d, ts => .ret (d, ts)
  | (j, x) :: r, d, ts => (opnd Γ x).bind fun v => (liftO (fieldOff T j)).bind fun q => (asT q.2 v).bind fun y => (takeTips x).bind fun us =>
      (liftO (setp d [j] ⟨q.2, y⟩)).bind fun d' => buildD T r d' (outRange q.1 q.2.size ts ++ shiftN q.1 (inRange 0 q.2.size (tipsFor v us)))
def buildL (e : Ty) : List (Nat × Operand) → Nat → M (List (den e))
  | [], _ => .ret []
  | (j, x) :: r, n => cond (Nat.beq j n) ((opnd Γ x).bind fun v => (asT e v).bind fun y => (buildL e r (n + 1)).bind fun ys => .ret (y :: ys)) .fail
def opndsL : List Operand → M (List V)
  | [] => .ret []
  | x :: r => (opnd Γ x).bind fun v => (opndsL r).bind fun vs => .ret (v :: vs)
def noSl : Ty → Bool
  | .sl _ => false
  | .pair a b => noSl a && noSl b
  | _ => true

/-! ### Calls -/
/-- The objects that the callee changes. -/
def mutIds : List (Nat × SK) → List V → M (List Nat)
  | [], _ => .ret []
  | (n, .bp _ _ _) :: r, vs => (match nthV vs n with
    | .bp i _ _ => (mutIds r vs).bind fun is => cond (hasN i is) .fail (.ret (i :: is))
    | _ => .fail)
  | _ :: r, vs => mutIds r vs
/-- An argument behind a pointer that is only read. -/
def argP (ms : List Nat) (T : Ty) : V → M (den T)
  | .rp d => liftO (d.as T)
  | .bp i p U => cond (hasN i ms) .fail ((loadP (.bp i p U)).bind fun x => liftO (x.1.as T))
  | .ep i n p U => cond (hasN i ms) .fail ((loadP (.ep i n p U)).bind fun x => liftO (x.1.as T))
  | _ => .fail
def argW (ms : List Nat) (T : Ty) : V → M (den T)
  | .pv d => liftO (d.as T)
  | .bp i [] _ => cond (hasN i ms) .fail ((getO i).bind fun
    | .vrp d => liftO (d.as T)
    | .vbp j q U => cond (hasN j ms) .fail ((loadP (.bp j q U)).bind fun x => liftO (x.1.as T))
    | _ => .fail)
  | _ => .fail
/-- 'b': nothing of it can come back, so a made array may be lent. -/
def notOwnIn (ms : List Nat) : V → Bool
  | .own i => !hasN i ms
  | _ => true
def argD (b : Bool) (ms : List Nat) (T : Ty) (v : V) : M (den T) := cond b (M.guard (notOwnIn ms v) (peekT T v)) (asT T v)
def argsC (b : Bool) (ms : List Nat) : (l : List (Nat × SK)) → List V → M (slotsH l)
  | [], _ => .ret ()
  | (n, .dat T _) :: r, vs => (argD b ms T (nthV vs n)).bind fun x => (argsC b ms r vs).bind fun y => .ret (x, y)
  | (n, .rp T) :: r, vs => (argP ms T (nthV vs n)).bind fun x => (argsC b ms r vs).bind fun y => .ret (x, y)
  | (n, .pv T) :: r, vs => (argW ms T (nthV vs n)).bind fun x => (argsC b ms r vs).bind fun y => .ret (x, y)
  | _, _ => .fail
def argF (ms : List Nat) (A R : Ty) : V → M (den A → Option (den R))
  | .fun1 A' R' g => (match tyEq A' A, tyEq R' R with
    | some ⟨h⟩, some ⟨k⟩ => .ret (k ▸ h ▸ g)
    | _, _ => .fail)
  | .fn f cs => (match Γ.Φ f with
    | some ⟨⟨(0, .dat A' _) :: r, [], _, _⟩, R', false, _, _, F⟩ => (match tyEq A' A, tyEq R' R with
      | some ⟨h⟩, some ⟨k⟩ => cond (Nat.beq cs.length r.length) ((argsC (noSl R') ms r (.bot :: cs)).bind fun ds => .ret (k ▸ h ▸ fun x => F ((x, ds), ()))) .fail
      | _, _ => .fail)
    | _ => .fail)
  | _ => .fail
def argsH (b : Bool) (ms : List Nat) : (l : List (Nat × SK)) → List V → M (slotsH l)
  | [], _ => .ret ()
  | (n, .dat T _) :: r, vs => (argD b ms T (nthV vs n)).bind fun x => (argsH b ms r vs).bind fun y => .ret (x, y)
  | (n, .rp T) :: r, vs => (argP ms T (nthV vs n)).bind fun x => (argsH b ms r vs).bind fun y => .ret (x, y)
  | (n, .pv T) :: r, vs => (argW ms T (nthV vs n)).bind fun x => (argsH b ms r vs).bind fun y => .ret (x, y)
  | (_, .bp _ _ _) :: r, vs => argsH b ms r vs
  | (n, .fun1 A R) :: r, vs => (argF Γ ms A R (nthV vs n)).bind fun x => (argsH b ms r vs).bind fun y => .ret (x, y)
  | (_, .own _) :: _, _ => .fail
  | (_, .fnb _ _) :: _, _ => .fail
/-- The caller's address of the callee's object number i. -/
def mutV (i : Nat) : List (Nat × SK) → List V → V
  | [], _ => .bot
  | (n, .bp j _ _) :: r, vs => cond (Nat.beq j i) (nthV vs n) (mutV i r vs)
  | _ :: r, vs => mutV i r vs
def mutsIn (sl : List (Nat × SK)) (vs : List V) : (l : List (Nat × OK)) → M (den (objsX l))
  | [] => .ret ()
  | (i, .box T ts) :: r => (match mutV i sl vs with
    | .bp id p _ => (getO id).bind fun
      | .box d => (liftO (getp d p)).bind fun x => (liftO (pathOff d.T p)).bind fun q => (liftO (x.as T)).bind fun y => (getOT id).bind fun os =>
          cond (ts.all (hasN · (inRange q.1 T.size os))) ((mutsIn sl vs r).bind fun z => .ret (y, z)) .fail
      | _ => .fail
    | _ => .fail)
  | _ => .fail
def mutsPut (sl : List (Nat × SK)) (vs : List V) : (l : List (Nat × OK)) → den (objsX l) → M Unit
  | [], _ => .ret ()
  | (i, .box T ts) :: r, (x, y) => (match mutV i sl vs with
    | .bp id p _ => (getO id).bind fun
      | .box d => (liftO (pathOff d.T p)).bind fun q => (liftO (setp d p ⟨T, x⟩)).bind fun d' => (setO id (.box d')).bind fun _ => (getOT id).bind fun os =>
          (putOT id (outRange q.1 T.size os ++ shiftN q.1 ts)).bind fun _ => (setF false).bind fun _ => mutsPut sl vs r y
      | _ => .fail
    | _ => .fail)
  | _, _ => .fail
def callV (f : FuncId) (vs : List V) : M (V × List Nat) :=
  match Γ.Φ f with
  | some s => cond (Nat.beq vs.length s.head.slots.length) ((mutIds s.head.slots vs).bind fun ms => (argsH Γ (noSl s.R && s.head.objs.isEmpty) ms s.head.slots vs).bind fun as => (mutsIn s.head.slots vs s.head.objs).bind fun os =>
      (cond s.total (liftO (s.F (as, os))) (optM (dflt (outTy s.R s.head.objs)) (s.F (as, os)))).bind fun o =>
      (mutsPut s.head.slots vs s.head.objs (splitO s.R s.head.objs o).2).bind fun _ =>
      .ret (cond s.multi (.tup ⟨s.R, (splitO s.R s.head.objs o).1⟩) (.dat ⟨s.R, (splitO s.R s.head.objs o).1⟩ none), s.tips)) .fail
  | none => .fail
/-- The destination of an operation that is no assignment. -/
def dstM (o : Oper) (v : V) (ts : List Nat) : M Unit :=
  match o.dst with
  | some d => cond (Nat.testBit Γ.vars d) .fail (setS d v ts)
  | none => .ret ()
def dstA (o : Oper) (v : V) (ts : List Nat) : M Unit :=
  match o.dst with
  | some d => setS d v ts
  | none => .ret ()
def evCall (o : Oper) (c : Call) : M Unit :=
  match c.callee with
  | .builtin .len => (match c.args.toList, c.argTypes.toList with
    | [x], [t] => (opnd Γ x).bind fun v => (lenD Γ t v).bind fun n => dstM Γ o (ofI n) []
    | _, _ => .fail)
  | .builtin .append => (match c.args.toList, c.argTypes.toList with
    | [x, y], [t, u] => (opnd Γ x).bind fun v => (opnd Γ y).bind fun w => (appendD Γ t u x v w).bind fun d => dstM Γ o (ofD d) [0]
    | _, _ => .fail)
  | .builtin .max => (match c.args.toList with
    | [x, y] => (opnd Γ x).bind fun v => (opnd Γ y).bind fun w => (asIntV v).bind fun a => (asIntV w).bind fun b => (match kindEq a.1 b.1 with | some _ => dstM Γ o (ofD ⟨.int a.1, max a.2 b.2⟩) [] | none => .fail)
    | _ => .fail)
  | .value f => (opnd Γ f).bind fun fv => (opndsL Γ c.args.toList).bind fun vs => (match fv with
    | .fn f cs => (callV Γ f (vs ++ cs)).bind fun r => dstM Γ o r.1 r.2
    | .fun1 A R g => (match vs with
      | [v] => (asT A v).bind fun x => (optM (dflt R) (g x)).bind fun y => dstM Γ o (ofD ⟨R, y⟩) []
      | _ => .fail)
    | _ => .fail)
  | _ => .fail
/-- A load; a pointer out of a variable, too. -/
def loadV (t : TypeId) (v : V) : M V :=
  match v with
  | .pv u => (chkP Γ t).bind fun _ => .ret (.rp u)
  | .bp i [] T => (getO i).bind fun
    | .vrp u => (chkP Γ t).bind fun _ => .ret (.rp u)
    | .vbp j q U => (chkP Γ t).bind fun _ => .ret (.bp j q U)
    | _ => (loadP (.bp i [] T)).bind fun r => (chkT Γ t r.1.T).bind fun _ => .ret (.dat r.1 r.2)
  | v => (loadP v).bind fun r => (chkT Γ t r.1.T).bind fun _ => .ret (.dat r.1 r.2)
def isCap : V → Bool
  | .fn _ _ | .tup _ | .own _ | .nilsl | .und | .bot => false
  | _ => true
/-- One operation; 'nid': the number of an object that it may lay. -/
def evOp (o : Oper) (nid : Nat) : M Unit :=
  match o.op with
  | .move x => (opnd Γ x).bind fun v => (match v, x with
    | .dat d none, .tmp t => dstM Γ o (.dat d (cond (Nat.testBit Γ.vars t) (some (.slot t 0)) none)) []
    | v, _ => dstM Γ o v [])
  | .assign x => cond o.guard.isNone ((opnd Γ x).bind fun v => (match v with
    | .nilsl => (match Γ.τ o.type with | some (.sl e) => (dstA o (.dat ⟨.sl e, ([] : List (den e))⟩ none) [0]).bind fun _ => setF false | _ => .fail)
    | .dat d p => (takeTips x).bind fun ts => (match ts, o.dst with
        | [], some s => cond (hasN s Γ.res) (steal d.T p) (.ret [])
        | ts, _ => .ret ts).bind fun us => (dstA o (.dat d none) us).bind fun _ => setF false
    | .kb b => (dstA o (ofB b) []).bind fun _ => setF false
    | v => (dstA o v []).bind fun _ => setF false)) .fail
  | .pick c a b => (opnd Γ c).bind fun v => (match v with
    | .kb true => (opnd Γ a).bind fun x => dstM Γ o x []
    | .kb false => (opnd Γ b).bind fun x => dstM Γ o x []
    | v => (boolV v).bind fun t => (opnd Γ a).bind fun x => (opnd Γ b).bind fun y => dstM Γ o (mergeV t x y) [])
  | .alloc t => (liftO (Γ.τ t)).bind fun T => (setO nid (.box ⟨T, dflt T⟩)).bind fun _ => (putOT nid (slOffs T)).bind fun _ => dstM Γ o (.bp nid [] T) []
  | .box t x => (opnd Γ x).bind fun v => (match v with
    | .rp d => (setO nid (.vrp d)).bind fun _ => (putOT nid []).bind fun _ => dstM Γ o (.bp nid [] .unit) []
    | .bp i p T => (setO nid (.vbp i p T)).bind fun _ => (putOT nid []).bind fun _ => dstM Γ o (.bp nid [] .unit) []
    | v => (liftO (Γ.τ t)).bind fun T => (asT T v).bind fun y => (takeTips x).bind fun ts =>
      (setO nid (.box ⟨T, y⟩)).bind fun _ => (putOT nid (tipsFor v ts)).bind fun _ => dstM Γ o (.bp nid [] T) [])
  | .build t ps => (liftO (Γ.τ t)).bind fun T => cond T.isSt ((buildD Γ T ps.toList ⟨T, dflt T⟩ (slOffs T)).bind fun r => dstM Γ o (ofD r.1) r.2) .fail
  | .buildSlice t n ps => (liftO (Γ.τ t)).bind fun T => (match T with
    | .sl e => cond (Nat.beq n ps.toList.length && Nat.ble (n * e.size) 16777216 && Nat.blt 0 e.size) ((buildL Γ e ps.toList 0).bind fun ys => dstM Γ o (ofD ⟨.sl e, ys⟩) [0]) .fail
    | _ => .fail)
  | .load t a => (opnd Γ a).bind fun v => (loadV Γ t v).bind fun r => dstM Γ o r []
  | .store t a x => cond o.dst.isNone ((opnd Γ a).bind fun v => (opnd Γ x).bind fun w => storeP Γ t x w v) .fail
  | .nilCheck x => (opnd Γ x).bind fun v => (match v with | .rp d => dstM Γ o (.rp d) [] | .bp i p T => dstM Γ o (.bp i p T) [] | .ep i n p T => dstM Γ o (.ep i n p T) [] | _ => .fail)
  | .binOp op t x y _ => (opnd Γ x).bind fun v => (opnd Γ y).bind fun w => (datD v).bind fun a => (datD w).bind fun b => (binD Γ op t a b).bind fun d => dstM Γ o (ofD d) []
  | .unOp op _ x => (opnd Γ x).bind fun v => (datD v).bind fun a => (unD op a).bind fun d => dstM Γ o (ofD d) []
  | .makeFunc (.func f) fs cs => (match fs.toList with | [] => (opndsL Γ cs.toList).bind fun vs => cond (vs.all isCap) (dstM Γ o (.fn f vs) []) .fail | _ => .fail)
  | .makeSlice t l c => (match l, c with
    | .tmp i, .tmp j => cond (Nat.beq i j) ((liftO (Γ.τ t)).bind fun T => (match T with
      | .sl e => (opnd Γ l).bind fun v => (asIntV v).bind fun n => (needM (decide (0 ≤ n.2) && decide (n.2 ≤ lim))).bind fun _ =>
          (setO nid (.arr e (List.replicate n.2.toNat (dflt e)) false)).bind fun _ => (putOT nid []).bind fun _ => dstM Γ o (.own nid) []
      | _ => .fail)) .fail
    | _, _ => .fail)
  | .slice t x lo hi none => (opnd Γ x).bind fun v => (opndI Γ lo).bind fun l => (opndI Γ hi).bind fun h => (asD v).bind fun d => (cutD Γ t l h d).bind fun e => dstM Γ o (ofD e) []
  | .fieldAddr t x j => (opnd Γ x).bind fun v => (fieldP Γ t j v).bind fun u => dstM Γ o u []
  | .field t x j => (opnd Γ x).bind fun v => (datD v).bind fun d => (chkT Γ t d.T).bind fun _ => (liftO (proj d.T d.x j)).bind fun e => dstM Γ o (ofD e) []
  | .indexAddr t x i => (opnd Γ x).bind fun v => (opnd Γ i).bind fun n => (asIntV n).bind fun m => (indexP Γ t m.2 v).bind fun u => dstM Γ o u []
  | .index t x i => (opnd Γ x).bind fun v => (opnd Γ i).bind fun n => (asIntV n).bind fun m => (match v with
    | .dat ⟨.str, xs⟩ _ => (chkT Γ t .str).bind fun _ => (needM (decide (0 ≤ m.2) && decide (m.2 < List.length (α := UInt8) xs))).bind fun _ => dstM Γ o (ofD ⟨.int .u8, ((List.getD (α := UInt8) xs m.2.toNat 0).toNat : Int)⟩) []
    | _ => .fail)
  | .extract (.tmp t) k => (getS t).bind fun v => (match v with
    | .tup d => (liftO (proj d.T d.x k)).bind fun x => (match slOffs x.T with
        | [] => dstM Γ o (.dat x none) []
        | _ => (liftO (fieldOff d.T k)).bind fun q => (getST t).bind fun ts => (putST t (outRange q.1 x.T.size ts)).bind fun _ => dstM Γ o (.dat x none) (inRange q.1 x.T.size ts))
    | _ => .fail)
  | .convert s t x => (opnd Γ x).bind fun v => (peekD v).bind fun d => (chkT Γ s d.T).bind fun _ => (liftO (Γ.τ t)).bind fun T => (match d, T with
    | ⟨.int _, n⟩, .int k => dstM Γ o (ofD ⟨.int k, k.wrap n⟩) []
    | ⟨.str, xs⟩, .sl (.int .u8) => (needM (Nat.ble (List.length (α := UInt8) xs) lim)).bind fun _ => dstM Γ o (ofD ⟨.sl (.int .u8), (List.map (fun b : UInt8 => ((b.toNat : Nat) : Int)) xs : List Int)⟩) []
    | ⟨.sl (.int .u8), xs⟩, .str => dstM Γ o (ofD ⟨.str, List.map (fun n : Int => UInt8.ofNat n.toNat) xs⟩) []
    | _, _ => .fail)
  | .call c => evCall Γ o c
  | _ => .fail

/-! ### Regions -/
abbrev Tr := List Loc × List Loc
def meets : List Loc → List Loc → Bool
  | [], _ => false
  | l :: r, q => hasLoc l q || meets r q
/-- Bit j of entry i: operation i waits, by one way or another, for operation j. -/
def waitMasks : List Oper → List Nat → List Nat
  | [], acc => acc
  | o :: r, acc => waitMasks r (acc ++ [o.after.toList.foldl (fun s e => if Region.binds .any e then s ||| 2 ^ e.on ||| acc.getD e.on 0 else s) 0])
/-- No operation behind number i (its traces: 'trs', number j the first) that doesn't wait for it is in its way. -/
def freeOf (masks : List Nat) (i : Nat) (t : Tr) : Nat → List Tr → Bool
  | _, [] => true
  | j, u :: r => (Nat.testBit (masks.getD j 0) i || !(meets t.2 u.1 || meets t.2 u.2 || meets t.1 u.2)) && freeOf masks i t (j + 1) r
def allFree (masks : List Nat) : Nat → List Tr → Bool
  | _, [] => true
  | i, t :: r => freeOf masks i t (i + 1) r && allFree masks (i + 1) r
def dstAt (ops : List Oper) (j : Nat) : Option Nat := (ops[j]?).bind (·.dst)
def bEq : Bool → Bool → Bool
  | true, b => b
  | false, b => !b
/-- The temporaries whose bits guard operations. -/
def guardsOf (all : List Oper) : List Oper → List Nat
  | [] => []
  | o :: r => match o.guard with
    | some (j, _) => (match dstAt all j with | some g => cond (hasN g (guardsOf all r)) (guardsOf all r) (g :: guardsOf all r) | none => guardsOf all r)
    | none => guardsOf all r
/-- A bit that guards is made sharp where it comes to be. -/
def sharpen (gs : List Nat) (dst : Option Nat) (s : St) (k : St → Out) : Out :=
  match dst with
  | none => k s
  | some d => cond (hasN d gs) (match nthV s.slots d with
    | .dat ⟨.bool, b⟩ _ => mkBr s.dirty s.all b (k { s with slots := setV s.slots d (.kb true), dirty := [.slot d], all := false }) (k { s with slots := setV s.slots d (.kb false), dirty := [.slot d], all := false })
    | _ => k s) (k s)
def dstWr : Option Nat → List Loc → List Loc
  | some d, wr => addLoc (.slot d) wr
  | none, wr => wr
/-- Operations wait for earlier ones alone. -/
def backOnly : List Oper → Nat → Bool
  | [], _ => true
  | o :: r, i => o.after.toList.all (fun e => !Region.binds .any e || Nat.blt e.on i) && backOnly r (i + 1)
/-- 'chk': behind the last operation, the traces of all. -/
def evOps (all : List Oper) (gs : List Nat) (chk : List Tr → Bool) (inls : Nat → Option (Nat → Oper → St → Out)) : List Oper → Nat → List Tr → St → Out
  | [], _, trs, s => cond (chk trs) (.norm s) .bad
  | o :: r, i, trs, s =>
    let run (rd : List Loc) (s : St) : Out := match inls i with
      | some h => (h i o s).bind fun s' => sharpen gs o.dst s' (evOps all gs chk inls r (i + 1) (trs ++ [([], [])]))
      | none => runM (evOp Γ o (s.next + i)) { s with rd := rd, wr := [] } fun _ s' => sharpen gs o.dst s' (evOps all gs chk inls r (i + 1) (trs ++ [(s'.rd, dstWr o.dst s'.wr)]))
    match o.guard with
    | none => run [] s
    | some (j, want) =>
      match dstAt all j with
      | none => .bad
      | some g =>
        let skip (s : St) : Out := match o.dst with
          | some d => cond (Nat.testBit Γ.vars d) .bad (evOps all gs chk inls r (i + 1) (trs ++ [([.slot g], [.slot d, .stip d])]) { s with slots := setV s.slots d .und, stips := setT s.stips d [], dirty := addLoc (.slot d) (addLoc (.stip d) s.dirty) })
          | none => evOps all gs chk inls r (i + 1) (trs ++ [([.slot g], [])]) s
        match nthV s.slots g with
        | .kb b => cond (bEq b want) (run [.slot g] s) (skip s)
        | .und => skip s
        | _ => .bad
def stripV : V → V
  | .dat d _ => .dat d none
  | v => v
def stripVs : List V → List V
  | [] => []
  | v :: r => stripV v :: stripVs r
def St.begin (s : St) : St := cond s.fresh s { s with slots := stripVs s.slots, fresh := true }
def lenL {α : Type} : List α → Nat
  | [] => 0
  | _ :: r => lenL r + 1
def evRegion (id : Nat) (ops : Array Oper) (draw : Bool) (s : St) : Out :=
  let l := ops.toList
  let s := s.begin
  (evOps Γ l (guardsOf l l) (cond draw (fun trs => backOnly l 0 && allFree (waitMasks l []) 0 trs) (fun _ => true)) (cond draw (fun _ => none) (Γ.inls id)) l 0 [] s).bind fun s' => .norm { s' with next := s'.next + l.length }

/-! ### Code -/
/-- The way out of a block is taken as its end. -/
def Out.catchExit (d0 : List Loc) (a0 : Bool) (id : Nat) : Out → Out
  | .norm s => .norm s
  | .ext j s => cond (Nat.beq j id) (.norm s) (.ext j s)
  | .ret s => .ret s
  | .br c t e => let t := t.catchExit d0 a0 id; let e := e.catchExit d0 a0 id; cond (joinable t e) (join1 d0 a0 c e t) (.br c t e)
  | .need c o => .need c (o.catchExit d0 a0 id)
  | .opt d o k => .opt d o fun b => (k b).catchExit d0 a0 id
  | .bad => .bad
def firstRegion : Code → Nat
  | .region id _ _ => id
  | .seq a _ => firstRegion a
  | .block _ c => firstRegion c
  | .loop c => firstRegion c
  | _ => 0
def evCode : Code → St → Out
  | .skip, s => .norm s
  | .region id ops draw, s => evRegion Γ id ops draw s
  | .seq a b, s => (evCode a s).bind (evCode b)
  | .cond (.tmp t) a b, s => match nthV s.slots t with
    | .kb true => evCode a s
    | .kb false => evCode b s
    | .dat ⟨.bool, c⟩ _ => mkBr s.dirty s.all c (evCode a { s with slots := setV s.slots t (.kb true), dirty := [.slot t], all := false }) (evCode b { s with slots := setV s.slots t (.kb false), dirty := [.slot t], all := false })
    | _ => .bad
  | .block id c, s => (evCode c s).catchExit s.dirty s.all id
  | .loop c, s => match Γ.loops (firstRegion c) with | some f => f s | none => .bad
  | .exit id, s => .ext id s
  | .ret, s => .ret s
  | _, _ => .bad

/-! ### Loops -/
def bpsEq : List (Nat × List Nat × Ty) → List V → Bool
  | [], [] => true
  | (i, p, T) :: r, .bp j q U :: vs => (tyEq U T).isSome && Nat.beq i j && beqNats p q && bpsEq r vs
  | _, _ => false
def bpsV : List (Nat × List Nat × Ty) → List V
  | [] => []
  | (i, p, T) :: r => .bp i p T :: bpsV r
def headSlots (s : St) : (l : List (Nat × SK)) → Option (slotsH l)
  | [] => some ()
  | (n, .dat T ts) :: r => match nthV s.slots n, headSlots s r with
    | .dat d _, some y => (match d.as T with | some x => cond (ts.all (hasN · (nthT s.stips n))) (some (x, y)) none | none => none)
    | .kb b, some y => (match (D.mk .bool b).as T with | some x => cond ts.isEmpty (some (x, y)) none | none => none)
    | _, _ => none
  | (n, .rp T) :: r => match nthV s.slots n, headSlots s r with
    | .rp d, some y => (match d.as T with | some x => some (x, y) | none => none)
    | _, _ => none
  | (n, .pv T) :: r => match nthV s.slots n, headSlots s r with
    | .pv d, some y => (match d.as T with | some x => some (x, y) | none => none)
    | _, _ => none
  | (n, .bp i p T) :: r => match nthV s.slots n with
    | .bp j q U => (match tyEq U T with | some _ => cond (Nat.beq i j && beqNats p q) (headSlots s r) none | none => none)
    | _ => none
  | (n, .own i) :: r => match nthV s.slots n with
    | .own j => cond (Nat.beq i j) (headSlots s r) none
    | _ => none
  | (n, .fun1 A R) :: r => match nthV s.slots n, headSlots s r with
    | .fun1 A' R' g, some y => (match tyEq A' A, tyEq R' R with | some ⟨h⟩, some ⟨k⟩ => some (k ▸ h ▸ g, y) | _, _ => none)
    | _, _ => none
  | (n, .fnb f cs) :: r => match nthV s.slots n with
    | .fn g vs => cond (Nat.beq f g && bpsEq cs vs) (headSlots s r) none
    | _ => none
def loadObjs (s : St) : (l : List (Nat × OK)) → Option (den (objsX l))
  | [] => some ()
  | (i, .box T ts) :: r => match lookObj i s.objs, loadObjs s r with
    | some (.box d), some y => (match d.as T with | some x => cond (ts.all (hasN · (lookT i s.otips))) (some (x, y)) none | none => none)
    | _, _ => none
  | (i, .vrp T) :: r => match lookObj i s.objs, loadObjs s r with
    | some (.vrp d), some y => (match d.as T with | some x => some (x, y) | none => none)
    | _, _ => none
  | (i, .vbp j q T) :: r => match lookObj i s.objs with
    | some (.vbp j' q' U) => (match tyEq U T with | some _ => cond (Nat.beq j j' && beqNats q q') (loadObjs s r) none | none => none)
    | _ => none
  | (i, .arr e) :: r => match lookObj i s.objs, loadObjs s r with
    | some (.arr e' xs false), some y => (match (D.mk (.sl e') xs).as (.sl e) with | some x => some (x, y) | none => none)
    | _, _ => none
def SK.idOk (n : Nat) : SK → Bool
  | .bp i _ _ | .own i => Nat.blt i n
  | .fnb _ cs => cs.all fun c => Nat.blt c.1 n
  | _ => true
def OK.idOk (n : Nat) : OK → Bool
  | .vbp i _ _ => Nat.blt i n
  | _ => true
/-- Each object that is named has a number below 'next'. -/
def Skel.idsOk (k : Skel) : Bool := k.slots.all (fun p => p.2.idOk k.next) && k.objs.all (fun p => Nat.blt p.1 k.next && p.2.idOk k.next)
def Skel.load (k : Skel) (s : St) : Option k.H :=
  cond (k.idsOk && Nat.ble k.ntmps s.slots.length) (match headSlots s k.slots, loadObjs s k.objs with
  | some x, some y => some (x, y)
  | _, _ => none) none
def fillV : (l : List (Nat × SK)) → slotsH l → List V → List V
  | [], _, v => v
  | (n, .dat T _) :: r, x, v => setV (fillV r x.2 v) n (.dat ⟨T, x.1⟩ none)
  | (n, .rp T) :: r, x, v => setV (fillV r x.2 v) n (.rp ⟨T, x.1⟩)
  | (n, .pv T) :: r, x, v => setV (fillV r x.2 v) n (.pv ⟨T, x.1⟩)
  | (n, .bp i p T) :: r, x, v => setV (fillV r x v) n (.bp i p T)
  | (n, .own i) :: r, x, v => setV (fillV r x v) n (.own i)
  | (n, .fun1 A R) :: r, x, v => setV (fillV r x.2 v) n (.fun1 A R x.1)
  | (n, .fnb f cs) :: r, x, v => setV (fillV r x v) n (.fn f (bpsV cs))
def SK.tips : SK → List Nat
  | .dat _ ts => ts
  | _ => []
def OK.tips : OK → List Nat
  | .box _ ts => ts
  | _ => []
def fillTips : List (Nat × SK) → List (List Nat) → List (List Nat)
  | [], v => v
  | (n, k) :: r, v => setT (fillTips r v) n k.tips
def fillObjs : (l : List (Nat × OK)) → den (objsX l) → List (Nat × Option Obj)
  | [], _ => []
  | (i, .box T _) :: r, x => (i, some (.box ⟨T, x.1⟩)) :: fillObjs r x.2
  | (i, .vrp T) :: r, x => (i, some (.vrp ⟨T, x.1⟩)) :: fillObjs r x.2
  | (i, .vbp j q T) :: r, x => (i, some (.vbp j q T)) :: fillObjs r x
  | (i, .arr e) :: r, x => (i, some (.arr e x.1 false)) :: fillObjs r x.2
def fillOT : List (Nat × OK) → List (Nat × List Nat)
  | [] => []
  | (i, k) :: r => (i, k.tips) :: fillOT r
def Skel.st (k : Skel) (x : k.H) : St :=
  { slots := fillV k.slots x.1 (List.replicate k.ntmps .bot), stips := fillTips k.slots (List.replicate k.ntmps []), objs := fillObjs k.objs x.2, otips := fillOT k.objs, fresh := false, next := k.next, dirty := [], all := true, rd := [], wr := [] }
/-- A loop: its head, its way out (block 'id'), and the state in which it returns from within. -/
structure Loop where
  head : Skel
  id : Nat
  out : Skel
  back : Option Skel
def Loop.Y (l : Loop) : Type := match l.back with | none => l.out.H | some b => Bool × l.out.H × b.H
def Loop.mkOut (l : Loop) (x : l.out.H) : l.Y :=
  match l with
  | ⟨_, _, _, none⟩ => x
  | ⟨_, _, _, some b⟩ => (true, x, b.dflt)
def Loop.mkBack (l : Loop) (s : St) : Option l.Y :=
  match l with
  | ⟨_, _, _, none⟩ => none
  | ⟨_, _, o, some b⟩ => match b.load s with | some y => some (false, o.dflt, y) | none => none
def Loop.dflt (l : Loop) : l.Y :=
  match l with
  | ⟨_, _, o, none⟩ => o.dflt
  | ⟨_, _, o, some b⟩ => (true, o.dflt, b.dflt)
def Loop.leaf (l : Loop) : l.Y → Out :=
  match l with
  | ⟨_, i, o, none⟩ => fun y => .ext i (o.st y)
  | ⟨_, i, o, some b⟩ => fun y => .br y.1 (.ext i (o.st y.2.1)) (.ret (b.st y.2.2))
def Loop.enter (l : Loop) (f : l.head.H → Option l.Y) (s : St) : Out :=
  match l.head.load s with
  | some x => .opt l.dflt (f x) l.leaf
  | none => .bad
/-- A test between two ways: 'cond', but two answers are joined into one. -/
def mergeO {β : Type} (c : Bool) : Option β → Option β → Option β
  | some x, some y => some (cond c x y)
  | a, b => cond c a b
def Out.round (l : Loop) (f : l.head.H → Option l.Y) : Out → Option l.Y
  | .norm s => match l.head.load s with | some x => f x | none => none
  | .ext j s => cond (Nat.beq j l.id) (match l.out.load s with | some y => some (l.mkOut y) | none => none) none
  | .ret s => l.mkBack s
  | .br c t e => mergeO c (t.round l f) (e.round l f)
  | .need c o => cond c (o.round l f) none
  | .opt _ o k => o.bind fun b => (k b).round l f
  | .bad => none
def findLoop (r : Nat) : Code → Option Code
  | .seq a b => match findLoop r a with | some c => some c | none => findLoop r b
  | .cond _ a b => match findLoop r a with | some c => some c | none => findLoop r b
  | .block _ c => findLoop r c
  | .loop c => cond (Nat.beq (firstRegion c) r) (some c) (findLoop r c)
  | _ => none
def loopAt (r : Nat) (fn : Func) : Code :=
  match fn.body with
  | some c => (match findLoop r c with | some c => c | none => .skip)
  | none => .skip
def lookL {α : Type 1} (n : Nat) : List (Nat × α) → Option α
  | [] => none
  | (j, o) :: r => cond (Nat.beq j n) (some o) (lookL n r)
def lookS (n : Nat) : List (Nat × Spec) → Option Spec
  | [] => none
  | (j, o) :: r => cond (Nat.beq j n) (some o) (lookS n r)
def lookTy (n : Nat) : List (Nat × Ty) → Option Ty
  | [] => none
  | (j, o) :: r => cond (Nat.beq j n) (some o) (lookTy n r)

/-! ### Functions -/
def resD (s : St) : ResultVar → Option (D × List Nat)
  | .tmp t => match nthV s.slots t with
    | .dat d _ => some (d, nthT s.stips t)
    | .kb b => some (⟨.bool, b⟩, [])
    | .own i => (match lookObj i s.objs with | some (.arr e xs _) => some (⟨.sl e, xs⟩, []) | _ => none)
    | _ => none
  | .cell a t => match nthV s.slots a with
    | .bp i p T => (match lookObj i s.objs, Γ.τ t with
      | some (.box d), some U => (match getp d p, pathOff d.T p, tyEq U T with | some x, some q, some _ => some (x, inRange q.1 q.2.size (lookT i s.otips)) | _, _, _ => none)
      | _, _ => none)
    | _ => none
def resL (s : St) : List ResultVar → Option (List (D × List Nat))
  | [] => some []
  | r :: l => match resD Γ s r, resL s l with | some x, some xs => some (x :: xs) | _, _ => none
def packD : List (D × List Nat) → D × List Nat
  | [] => (⟨.unit, ()⟩, [])
  | (d, ts) :: r => let q := packD r; (⟨.pair d.T q.1.T, (d.x, q.1.x)⟩, inRange 0 d.T.size ts ++ shiftN d.T.size q.2)
def resOf (multi : Bool) (l : List (D × List Nat)) : Option (D × List Nat) :=
  cond multi (match l with | [_] => none | l => some (packD l)) (match l with | [x] => some x | _ => none)
/-- Whose tips the results bear. -/
def resKeys (s : St) : List ResultVar → List Loc
  | [] => []
  | .tmp t :: l => .stip t :: resKeys s l
  | .cell a _ :: l => (match nthV s.slots a with | .bp i _ _ => .otip i :: resKeys s l | _ => resKeys s l)
def objKeys : List (Nat × OK) → List Loc
  | [] => []
  | (i, _) :: l => .otip i :: objKeys l
def apartL : List Loc → Bool
  | [] => true
  | l :: r => !hasLoc l r && apartL r
/-- The end of a function. -/
def endOf (sp : Spec) (fn : Func) (s : St) : Option (den (outTy sp.R sp.head.objs)) :=
  cond (apartL (resKeys s fn.results.toList ++ objKeys sp.head.objs)) (match (resL Γ s fn.results.toList).bind (resOf sp.multi), loadObjs s sp.head.objs with
  | some (d, ts), some m => cond (sp.tips.all (hasN · ts)) (match d.as sp.R with | some x => some (packO sp.R sp.head.objs x m) | _ => none) none
  | _, _ => none) none
def Out.val {β : Type} (f : St → Option β) : Out → Option β
  | .norm s => f s
  | .ret s => f s
  | .ext _ _ => none
  | .br c t e => mergeO c (t.val f) (e.val f)
  | .need c o => cond c (o.val f) none
  | .opt _ o k => o.bind fun b => (k b).val f
  | .bad => none
def evFn (sp : Spec) (fn : Func) (x : sp.head.H) : Option (den (outTy sp.R sp.head.objs)) :=
  match fn.body with
  | none => none
  | some c => cond (Nat.beq sp.head.ntmps fn.ntmps && sp.head.idsOk) ((evCode Γ c (sp.head.st x)).val (endOf Γ sp fn)) none

/-! ### Calls that are entered in place -/
def bodyOf (fn : Func) : Code := match fn.body with | some c => c | none => .skip
def opndV (s : St) : Operand → Option V
  | .tmp t => some (nthV s.slots t)
  | .const v => some (constV v)
  | .global g => match Γ.glob g with | some d => some (.rp d) | none => none
  | .func f => some (.fn f [])
def opndsV (s : St) : List Operand → Option (List V)
  | [] => some []
  | x :: r => match opndV Γ s x, opndsV s r with | some v, some vs => some (v :: vs) | _, _ => none
def enterSt (nt : Nat) (vs : List V) (s : St) (n : Nat) : St :=
  { slots := stripVs vs ++ List.replicate (nt - lenL vs) .bot, stips := List.replicate nt [], objs := s.objs, otips := s.otips, fresh := false, next := n, dirty := [], all := false, rd := [], wr := [] }
def objLocs : List Loc → List Loc
  | [] => []
  | .obj i :: r => .obj i :: objLocs r
  | .otip i :: r => .otip i :: objLocs r
  | _ :: r => objLocs r
def stipLocs : List (List Nat) → Nat → List Loc
  | [], _ => []
  | [] :: r, n => stipLocs r (n + 1)
  | _ :: r, n => .stip n :: stipLocs r (n + 1)
def clearT : List (List Nat) → List (List Nat)
  | [] => []
  | _ :: r => [] :: clearT r
def noOwn (t : St) : List ResultVar → Bool
  | [] => true
  | .tmp r :: l => (match nthV t.slots r with | .own _ => false | _ => true) && noOwn t l
  | _ :: l => noOwn t l
/-- What a function that was entered in place hands back. -/
def resV (fn : Func) (t : St) : Option (V × List Nat) :=
  match fn.results.toList with
  | [.tmp r] => (match nthV t.slots r with
    | .dat d _ => some (.dat d none, nthT t.stips r)
    | .bot => none
    | .und => none
    | .tup _ => none
    | .ep _ _ _ _ => none
    | v => some (v, []))
  | l => cond (noOwn t l) (match resL Γ t l with
    | some [x] => some (.dat x.1 none, [])
    | some ds => some (.tup (packD ds).1, [])
    | none => none) none
def leaveSt (Δ : Env) (fn : Func) (o : Oper) (s t : St) : Out :=
  match resV Δ fn t with
  | none => .bad
  | some (v, ts) =>
    let u : St := { s with stips := clearT s.stips, objs := t.objs, otips := t.otips, fresh := false, next := t.next, dirty := addLocs (objLocs t.dirty) (addLocs (stipLocs s.stips 0) s.dirty), all := s.all || t.all, rd := [], wr := [] }
    match o.dst with
    | none => .norm u
    | some d => cond (Nat.testBit Γ.vars d) .bad (.norm { u with slots := setV u.slots d v, stips := setT u.stips d ts, dirty := addLoc (.slot d) (addLoc (.stip d) u.dirty) })
/-- Behind the callee. -/
def Out.leave (d0 : List Loc) (a0 : Bool) (f : St → Out) : Out → Out
  | .norm s => f s
  | .ret s => f s
  | .ext _ _ => .bad
  | .br c t e => let t := t.leave d0 a0 f; let e := e.leave d0 a0 f; cond (joinable t e) (join1 d0 a0 c e t) (.br c t e)
  | .need c o => .need c (o.leave d0 a0 f)
  | .opt d o k => .opt d o fun b => (k b).leave d0 a0 f
  | .bad => .bad
def inlRun (Δ : Env) (fn : Func) (f : FuncId) (low i : Nat) (o : Oper) (s : St) : Out :=
  match o.op with
  | .call c => (match c.callee with
    | .value x => (match opndV Γ s x, opndsV Γ s c.args.toList with
      | some (.fn g cs), some vs => cond (Nat.beq g f && Nat.ble (s.next + i + 1) low) ((evCode Δ (bodyOf fn) (enterSt fn.ntmps (vs ++ cs) s (s.next + i + 1))).leave s.dirty s.all (leaveSt Γ Δ fn o s)) .bad
      | _, _ => .bad)
    | _ => .bad)
  | _ => .bad
end
def inlsOf : List (Nat × Nat × (Nat → Oper → St → Out)) → Nat → Nat → Option (Nat → Oper → St → Out)
  | [], _, _ => none
  | (r, i, h) :: l, id, j => cond (Nat.beq r id && Nat.beq i j) (some h) (inlsOf l id j)
end Go.XE
