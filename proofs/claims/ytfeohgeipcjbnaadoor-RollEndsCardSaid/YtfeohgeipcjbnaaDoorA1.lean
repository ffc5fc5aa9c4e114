/- Joined by a program (merge.py) out of own texts: X1 X2 X3 X4 X5 X6 X7 X8 X9 X10 X11 X12 X13 X14 X15 X16 X17 X18. -/
import GoSem.Step
import Derived.Control
import Derived.Laws.World
import Derived.DeepKeys
import Derived.Calls
import Derived.Lib.Strings
import Derived.Laws.Append
import Derived.Laws.Sem
set_option linter.unusedSimpArgs false
set_option linter.unusedVariables false
/- The data that the program's values are told by: abstract values 'V', the types of slices' elements 'Ty', how an element lies in cells ('enc'), and back ('dec'). -/
set_option autoImplicit false
namespace GoX
open Go

abbrev Bs := List Int

structure Name where
  view : Int
  frm : Int
  seq : Int
  deriving DecidableEq
structure Entry where
  name : Name
  text : Bs
  deriving DecidableEq
structure Roll where
  view : Int
  members : Int
  deriving DecidableEq
structure Change where
  add : Bool
  id : Int
  deriving DecidableEq
structure Letter where
  frm : Int
  to : Int
  seq : Int
  body : Bs
  tag : Bs
  deriving DecidableEq
structure End where
  key : Bs
  next : Int
  top : Int
  came : Int
  deriving DecidableEq
structure PField where
  kind : Int
  num : Int
  text : Bs
  real : Nat
  deriving DecidableEq
structure RField where
  kind : Int
  num : Int
  text : Bs
  bits : Int
  deriving DecidableEq
structure Out where
  kind : Int
  body : Bs
  deriving DecidableEq
structure Frame where
  name : Name
  kind : Int
  body : Bs
  deriving DecidableEq
structure Ballot where
  body : Bs
  who : Int
  deriving DecidableEq
structure Case where
  echoed : Bool
  readied : Bool
  done : Bool
  echoes : List Ballot
  readies : List Ballot
  deriving DecidableEq
structure Opn where
  frm : Int
  seq : Int
  case : Case
  deriving DecidableEq
structure Body where
  kind : Int
  past : List Int
  text : Bs
  deriving DecidableEq
structure Item where
  frm : Int
  seq : Int
  body : Body
  deriving DecidableEq
structure Cast where
  who : Int
  change : Change
  deriving DecidableEq
structure Mrk where
  who : Int
  past : List Int
  deriving DecidableEq
structure Step where
  what : Int
  a : Int
  b : Int
  at_ : Int
  kind : Int
  name : Name
  text : Bs
  change : Change
  deriving DecidableEq
structure Deed where
  kind : Int
  text : Bs
  change : Change
  deriving DecidableEq
structure Was where
  x : Entry
  ahead : List Entry
  deriving DecidableEq
structure Spot where
  frm : Int
  seq : Int
  deriving DecidableEq
structure Pair where
  a : Int
  b : Int
  deriving DecidableEq

instance : Inhabited Name := ⟨⟨0, 0, 0⟩⟩
instance : Inhabited Entry := ⟨⟨default, []⟩⟩
instance : Inhabited Change := ⟨⟨false, 0⟩⟩
instance : Inhabited Body := ⟨⟨0, [], []⟩⟩
instance : Inhabited Case := ⟨⟨false, false, false, [], []⟩⟩

inductive Ty where
  | int (k : IntKind) | str | roll | change | name | entry | letter | end_ | field | rfield | out | frame | ballot | opn | item | cast | mrk | step | act | was | entries | spot | pair | unit
  deriving DecidableEq

@[reducible] def Ty.den : Ty → Type
  | .int _ => Int
  | .str => Bs
  | .roll => Roll
  | .change => Change
  | .name => Name
  | .entry => Entry
  | .letter => Letter
  | .end_ => End
  | .field => PField
  | .rfield => RField
  | .out => Out
  | .frame => Frame
  | .ballot => Ballot
  | .opn => Opn
  | .item => Item
  | .cast => Cast
  | .mrk => Mrk
  | .step => Step
  | .act => Deed
  | .was => Was
  | .entries => List Entry
  | .spot => Spot
  | .pair => Pair
  | .unit => Unit

def Ty.dflt : (τ : Ty) → τ.den
  | .int _ => (0 : Int)
  | .str => ([] : Bs)
  | .roll => (⟨0, 0⟩ : Roll)
  | .change => (⟨false, 0⟩ : Change)
  | .name => (⟨0, 0, 0⟩ : Name)
  | .entry => (⟨⟨0, 0, 0⟩, []⟩ : Entry)
  | .letter => (⟨0, 0, 0, [], []⟩ : Letter)
  | .end_ => (⟨[], 0, 0, 0⟩ : End)
  | .field => (⟨0, 0, [], 0⟩ : PField)
  | .rfield => (⟨0, 0, [], 0⟩ : RField)
  | .out => (⟨0, []⟩ : Out)
  | .frame => (⟨⟨0, 0, 0⟩, 0, []⟩ : Frame)
  | .ballot => (⟨[], 0⟩ : Ballot)
  | .opn => (⟨0, 0, default⟩ : Opn)
  | .item => (⟨0, 0, default⟩ : Item)
  | .cast => (⟨0, default⟩ : Cast)
  | .mrk => (⟨0, []⟩ : Mrk)
  | .step => (⟨0, 0, 0, 0, 0, default, [], default⟩ : Step)
  | .act => (⟨0, [], default⟩ : Deed)
  | .was => (⟨default, []⟩ : Was)
  | .entries => ([] : List Entry)
  | .spot => (⟨0, 0⟩ : Spot)
  | .pair => (⟨0, 0⟩ : Pair)
  | .unit => ()

/-- An abstract value. 'pt': into a block of the call's own; 'pa': into an element of an array in one; 'pr': into an element of a row of the call's own; 'pi': at cells that nobody writes; 'sl': a slice over cells that nobody writes; 'ow': one over a row of the call's own; 'u': a number of whatever size; 'ifa': an interface that holds a struct; 'ar': so many cells in a row, of an array. -/
inductive V where
  | junk
  | b (x : Bool)
  | i (k : IntKind) (x : Int)
  | f (bits : Nat)
  | u (x : Int)
  | s (x : Bs)
  | np
  | ni
  | nf
  | ns
  | nm
  | pt (id off : Nat)
  | pa (id off : Nat) (τ : Ty) (n : Nat) (ix : Int) (sub : Nat)
  | pr (id : Nat) (τ : Ty) (ix : Int) (sub : Nat)
  | pi (cs : List V)
  | sl (τ : Ty) (xs : List τ.den)
  | ow (id : Nat) (τ : Ty) (off len : Int)
  | ar (τ : Ty) (n : Nat) (xs : List τ.den)
  | fn (f : Nat) (caps : List V)
  | mp (id : Nat)
  | ifc (t : Nat) (v : V)
  | ifa (t : Nat) (cs : List V)
  | agg (cs : List V)
  | tup (vs : List V)

def Ty.size : Ty → Nat
  | .int _ | .str | .entries => 1
  | .roll | .change | .out | .ballot | .spot | .pair => 2
  | .unit => 0
  | .name | .cast => 3
  | .entry | .end_ | .field | .rfield | .act => 4
  | .letter | .frame | .was => 5
  | .opn => 7
  | .item => 20
  | .mrk => 17
  | .step => 11

def vname (x : Name) : List V := [.i .i64 x.view, .i .u8 x.frm, .i .i64 x.seq]
def vchange (x : Change) : List V := [.b x.add, .i .u8 x.id]

/-- An element's cells. -/
def enc : (τ : Ty) → τ.den → List V
  | .int k, x => [.i k x]
  | .str, x => [.s x]
  | .roll, x => [.i .i64 x.view, .i .u16 x.members]
  | .change, x => [.b x.add, .i .u8 x.id]
  | .name, x => [.i .i64 x.view, .i .u8 x.frm, .i .i64 x.seq]
  | .entry, x => [.i .i64 x.name.view, .i .u8 x.name.frm, .i .i64 x.name.seq, .s x.text]
  | .letter, x => [.i .u8 x.frm, .i .u8 x.to, .i .u32 x.seq, .sl (.int .u8) x.body, .s x.tag]
  | .end_, x => [.s x.key, .i .u32 x.next, .i .u32 x.top, .i .u64 x.came]
  | .field, x => [.i .i64 x.kind, .i .u64 x.num, .s x.text, .f x.real]
  | .rfield, x => [.i .i64 x.kind, .i .u64 x.num, .s x.text, .i .u64 x.bits]
  | .out, x => [.i .i64 x.kind, .s x.body]
  | .frame, x => [.i .i64 x.name.view, .i .u8 x.name.frm, .i .i64 x.name.seq, .i .i64 x.kind, .s x.body]
  | .ballot, x => [.s x.body, .i .u16 x.who]
  | .opn, x => [.i .u8 x.frm, .i .i64 x.seq, .b x.case.echoed, .b x.case.readied, .b x.case.done, .sl .ballot x.case.echoes, .sl .ballot x.case.readies]
  | .item, x => [.i .u8 x.frm, .i .i64 x.seq, .i .i64 x.body.kind, .ar (.int .u16) 16 x.body.past, .s x.body.text]
  | .cast, x => [.i .u8 x.who, .b x.change.add, .i .u8 x.change.id]
  | .mrk, x => [.i .u8 x.who, .ar (.int .u16) 16 x.past]
  | .step, x => [.i .i64 x.what, .i .u8 x.a, .i .u8 x.b, .i .i64 x.at_, .i .i64 x.kind, .i .i64 x.name.view, .i .u8 x.name.frm, .i .i64 x.name.seq, .s x.text, .b x.change.add, .i .u8 x.change.id]
  | .act, x => [.i .u8 x.kind, .s x.text, .b x.change.add, .i .u8 x.change.id]
  | .was, x => [.i .i64 x.x.name.view, .i .u8 x.x.name.frm, .i .i64 x.x.name.seq, .s x.x.text, .sl .entry x.ahead]
  | .entries, x => [.sl .entry x]
  | .spot, x => [.i .u8 x.frm, .i .i64 x.seq]
  | .pair, x => [.i .u8 x.a, .i .u8 x.b]
  | .unit, _ => []

/-- The element that lies in cells. -/
def dec : (τ : Ty) → List V → Option τ.den
  | .int k, [.i k' x] => if k = k' then some x else none
  | .str, [.s x] => some x
  | .roll, [.i .i64 a, .i .u16 b] => some ⟨a, b⟩
  | .change, [.b a, .i .u8 b] => some ⟨a, b⟩
  | .name, [.i .i64 a, .i .u8 b, .i .i64 c] => some ⟨a, b, c⟩
  | .entry, [.i .i64 a, .i .u8 b, .i .i64 c, .s t] => some ⟨⟨a, b, c⟩, t⟩
  | .letter, [.i .u8 a, .i .u8 b, .i .u32 c, .sl (.int .u8) d, .s t] => some ⟨a, b, c, d, t⟩
  | .letter, [.i .u8 a, .i .u8 b, .i .u32 c, .ns, .s t] => some ⟨a, b, c, [], t⟩
  | .end_, [.s a, .i .u32 b, .i .u32 c, .i .u64 d] => some ⟨a, b, c, d⟩
  | .field, [.i .i64 a, .i .u64 b, .s c, .f d] => some ⟨a, b, c, d⟩
  | .rfield, [.i .i64 a, .i .u64 b, .s c, .i .u64 d] => some ⟨a, b, c, d⟩
  | .out, [.i .i64 a, .s b] => some ⟨a, b⟩
  | .frame, [.i .i64 a, .i .u8 b, .i .i64 c, .i .i64 d, .s e] => some ⟨⟨a, b, c⟩, d, e⟩
  | .ballot, [.s a, .i .u16 b] => some ⟨a, b⟩
  | .opn, [.i .u8 a, .i .i64 b, .b c, .b d, .b e, .sl .ballot x, .sl .ballot y] => some ⟨a, b, ⟨c, d, e, x, y⟩⟩
  | .opn, [.i .u8 a, .i .i64 b, .b c, .b d, .b e, .ns, .sl .ballot y] => some ⟨a, b, ⟨c, d, e, [], y⟩⟩
  | .opn, [.i .u8 a, .i .i64 b, .b c, .b d, .b e, .sl .ballot x, .ns] => some ⟨a, b, ⟨c, d, e, x, []⟩⟩
  | .opn, [.i .u8 a, .i .i64 b, .b c, .b d, .b e, .ns, .ns] => some ⟨a, b, ⟨c, d, e, [], []⟩⟩
  | .item, [.i .u8 a, .i .i64 b, .i .i64 c, .ar (.int .u16) 16 v, .s t] => some ⟨a, b, ⟨c, v, t⟩⟩
  | .cast, [.i .u8 a, .b c, .i .u8 d] => some ⟨a, ⟨c, d⟩⟩
  | .mrk, [.i .u8 a, .ar (.int .u16) 16 v] => some ⟨a, v⟩
  | .step, [.i .i64 a, .i .u8 b, .i .u8 c, .i .i64 d, .i .i64 e, .i .i64 f, .i .u8 g, .i .i64 h, .s t, .b u, .i .u8 v] => some ⟨a, b, c, d, e, ⟨f, g, h⟩, t, ⟨u, v⟩⟩
  | .act, [.i .u8 a, .s t, .b u, .i .u8 v] => some ⟨a, t, ⟨u, v⟩⟩
  | .was, [.i .i64 a, .i .u8 b, .i .i64 c, .s t, .sl .entry l] => some ⟨⟨⟨a, b, c⟩, t⟩, l⟩
  | .was, [.i .i64 a, .i .u8 b, .i .i64 c, .s t, .ns] => some ⟨⟨⟨a, b, c⟩, t⟩, []⟩
  | .entries, [.sl .entry l] => some l
  | .entries, [.ns] => some []
  | .spot, [.i .u8 a, .i .i64 b] => some ⟨a, b⟩
  | .pair, [.i .u8 a, .i .u8 b] => some ⟨a, b⟩
  | .unit, [] => some ()
  | _, _ => none

/-- is it a struct? -/
def Ty.agg : Ty → Bool
  | .int _ | .str | .entries => false
  | _ => true

end GoX
/- What an abstract value says of a concrete one in a world; what an abstract heap says of a world; and that what a step leaves alone stays as it was. -/
set_option autoImplicit false
namespace GoX
open Go

structure Place where
  blk : Nat
  off : Nat
  cap : Nat

inductive XObj where
  | cells (cs : List V)
  | row (τ : Ty) (xs : List τ.den)
  | tc (T : Nat) (cs : List V)
  | rowc (τ : Ty) (xs : List τ.den) (c : Int)
  | mp (κ υ : Ty) (es : List (κ.den × υ.den))

def inR (k : IntKind) (x : Int) : Prop := k.min ≤ x ∧ x ≤ k.max

def oneC : Value → Bool
  | .agg _ | .tuple _ => false
  | _ => true

def toInts (b : ByteArray) : Bs := b.data.toList.map fun u => (u.toNat : Int)

def okLen (n : Nat) : Prop := n ≤ 9223372036854775807

def cellsAt (w : World) (blk off : Nat) (vs : List Value) : Prop :=
  ∀ j v, vs[j]? = some v → w.cell? ⟨blk, off + j, none⟩ = some v

inductive DenL (ρ : Nat → Place) (I : Nat → Prop) (w : World) : List V → List Value → Prop
  | nil : DenL ρ I w [] []
  | junk {cs vs} (x : Value) : oneC x = true → DenL ρ I w cs vs → DenL ρ I w (.junk :: cs) (x :: vs)
  | b {cs vs} (x : Bool) : DenL ρ I w cs vs → DenL ρ I w (.b x :: cs) (.bool x :: vs)
  | i {cs vs} (k : IntKind) (x : Int) : inR k x → DenL ρ I w cs vs → DenL ρ I w (.i k x :: cs) (.int k x :: vs)
  | f {cs vs} (n : Nat) : DenL ρ I w cs vs → DenL ρ I w (.f n :: cs) (.float .f64 n :: vs)
  | u {cs vs} (n : Int) : DenL ρ I w cs vs → DenL ρ I w (.u n :: cs) (.int .i64 n :: vs)
  | s {cs vs} (x : ByteArray) : okLen x.size → DenL ρ I w cs vs → DenL ρ I w (.s (toInts x) :: cs) (.string x :: vs)
  | np {cs vs} : DenL ρ I w cs vs → DenL ρ I w (.np :: cs) (.pointer none :: vs)
  | ni {cs vs} : DenL ρ I w cs vs → DenL ρ I w (.ni :: cs) (.nilIface :: vs)
  | nf {cs vs} : DenL ρ I w cs vs → DenL ρ I w (.nf :: cs) (.nilFunc :: vs)
  | ns {cs vs} : DenL ρ I w cs vs → DenL ρ I w (.ns :: cs) (.slice none 0 0 :: vs)
  | nm {cs vs} : DenL ρ I w cs vs → DenL ρ I w (.nm :: cs) (.map none :: vs)
  | pt {cs vs} (id off : Nat) : DenL ρ I w cs vs → DenL ρ I w (.pt id off :: cs) (.pointer (some ⟨(ρ id).blk, off, none⟩) :: vs)
  | pa {cs vs} (id off : Nat) (τ : Ty) (n : Nat) (ix : Int) (sub : Nat) : 0 ≤ ix → ix.toNat < n → DenL ρ I w cs vs →
      DenL ρ I w (.pa id off τ n ix sub :: cs) (.pointer (some ⟨(ρ id).blk, off + ix.toNat * τ.size + sub, none⟩) :: vs)
  | pr {cs vs} (id : Nat) (τ : Ty) (ix : Int) (sub : Nat) : 0 ≤ ix → DenL ρ I w cs vs →
      DenL ρ I w (.pr id τ ix sub :: cs) (.pointer (some ⟨(ρ id).blk, (ρ id).off + ix.toNat * τ.size + sub, none⟩) :: vs)
  | pi {cs vs} (ps : List V) (ws : List Value) (blk off : Nat) : I blk → DenL ρ I w ps ws → cellsAt w blk off ws → DenL ρ I w cs vs →
      DenL ρ I w (.pi ps :: cs) (.pointer (some ⟨blk, off, none⟩) :: vs)
  | sl0 {cs vs} (τ : Ty) (a : Option Addr) (cap : Nat) : DenL ρ I w cs vs → DenL ρ I w (.sl τ [] :: cs) (.slice a 0 cap :: vs)
  | sl {cs vs} (τ : Ty) (xs : List τ.den) (blk off cap : Nat) (g : Nat → List Value) : I blk → xs.length ≤ cap → okLen xs.length →
      (∀ n (h : n < xs.length), DenL ρ I w (enc τ xs[n]) (g n)) → (∀ n, n < xs.length → cellsAt w blk (off + n * τ.size) (g n)) → DenL ρ I w cs vs →
      DenL ρ I w (.sl τ xs :: cs) (.slice (some ⟨blk, off, none⟩) xs.length cap :: vs)
  | ow {cs vs} (id : Nat) (τ : Ty) (off len : Int) (a : Option Addr) : 0 ≤ off → 0 ≤ len → (off + len).toNat ≤ (ρ id).cap → okLen len.toNat →
      (a = some ⟨(ρ id).blk, (ρ id).off + off.toNat * τ.size, none⟩ ∨ off.toNat = (ρ id).cap) → DenL ρ I w cs vs →
      DenL ρ I w (.ow id τ off len :: cs) (.slice a len.toNat ((ρ id).cap - off.toNat) :: vs)
  | ar {cs vs} (τ : Ty) (xs : List τ.den) (ws : List Value) : DenL ρ I w (xs.flatMap (enc τ)) ws → DenL ρ I w cs vs →
      DenL ρ I w (.ar τ xs.length xs :: cs) (ws ++ vs)
  | fn {cs vs} (f : Nat) (caps : List V) (ws : List Value) : DenL ρ I w caps ws → DenL ρ I w cs vs →
      DenL ρ I w (.fn f caps :: cs) (.func (.func f) #[] ws.toArray :: vs)
  | mp {cs vs} (id : Nat) : DenL ρ I w cs vs → DenL ρ I w (.mp id :: cs) (.map (some (ρ id).blk) :: vs)
  | ifc {cs vs} (t t' : Nat) (v : V) (x : Value) : (v ≠ .junk → t' = t) → (v ≠ .junk → DenL ρ I w [v] [x]) → DenL ρ I w cs vs → DenL ρ I w (.ifc t v :: cs) (.iface t' x :: vs)
  | ifa {cs vs} (t : Nat) (ps : List V) (ws : List Value) : DenL ρ I w ps ws → DenL ρ I w cs vs → DenL ρ I w (.ifa t ps :: cs) (.iface t (.agg ws.toArray) :: vs)

mutual
def V.no (N : Nat → Bool) : V → Bool
  | .pt id _ | .pa id _ _ _ _ _ | .pr id _ _ _ | .ow id _ _ _ | .mp id => !N id
  | .pi cs | .fn _ cs | .ifa _ cs | .agg cs | .tup cs => noL N cs
  | .ifc _ v => v.no N
  | _ => true
def noL (N : Nat → Bool) : List V → Bool
  | [] => true
  | v :: vs => v.no N && noL N vs
end

theorem noL_append (N : Nat → Bool) (a b : List V) : noL N (a ++ b) = (noL N a && noL N b) := by
  induction a with
  | nil => simp [noL]
  | cons x a ih => simp [noL, ih, Bool.and_assoc]

theorem noL_enc (N : Nat → Bool) (τ : Ty) (x : τ.den) : noL N (enc τ x) = true := by
  cases τ <;> simp [enc, noL, V.no]

theorem noL_flat (N : Nat → Bool) (τ : Ty) (xs : List τ.den) : noL N (xs.flatMap (enc τ)) = true := by
  induction xs with
  | nil => rfl
  | cons x xs ih => simp only [List.flatMap_cons, noL_append, noL_enc, ih, Bool.and_true]

theorem cellsAt_mono {w w' : World} {blk off : Nat} {vs : List Value} (h : w'.heap[blk]? = w.heap[blk]?) (hc : cellsAt w blk off vs) : cellsAt w' blk off vs := by
  intro j v hv
  have := hc j v hv
  simp only [World.cell?] at this ⊢
  rw [h]; exact this

theorem DenL.mono {ρ ρ' : Nat → Place} {I I' : Nat → Prop} {w w' : World} {N : Nat → Bool} (hI : ∀ b, I b → I' b)
    (hw : ∀ b, I b → w'.heap[b]? = w.heap[b]?) (hρ : ∀ id, N id = false → ρ' id = ρ id) {cs : List V} {vs : List Value}
    (h : DenL ρ I w cs vs) : noL N cs = true → DenL ρ' I' w' cs vs := by
  induction h with
  | nil => intro _; exact .nil
  | junk x h1 _ ih => intro hn; simp [noL, V.no] at hn; exact .junk x h1 (ih hn)
  | b x _ ih => intro hn; simp [noL, V.no] at hn; exact .b x (ih hn)
  | i k x hr _ ih => intro hn; simp [noL, V.no] at hn; exact .i k x hr (ih hn)
  | f x _ ih => intro hn; simp [noL, V.no] at hn; exact .f x (ih hn)
  | u x _ ih => intro hn; simp [noL, V.no] at hn; exact .u x (ih hn)
  | s x h1 _ ih => intro hn; simp [noL, V.no] at hn; exact .s x h1 (ih hn)
  | np _ ih => intro hn; simp [noL, V.no] at hn; exact .np (ih hn)
  | ni _ ih => intro hn; simp [noL, V.no] at hn; exact .ni (ih hn)
  | nf _ ih => intro hn; simp [noL, V.no] at hn; exact .nf (ih hn)
  | ns _ ih => intro hn; simp [noL, V.no] at hn; exact .ns (ih hn)
  | nm _ ih => intro hn; simp [noL, V.no] at hn; exact .nm (ih hn)
  | pt id off _ ih => intro hn; simp [noL, V.no] at hn; rw [← hρ id hn.1]; exact .pt id off (ih hn.2)
  | pa id off τ n ix sub h0 h1 _ ih => intro hn; simp [noL, V.no] at hn; rw [← hρ id hn.1]; exact .pa id off τ n ix sub h0 h1 (ih hn.2)
  | pr id τ ix sub h0 _ ih => intro hn; simp [noL, V.no] at hn; rw [← hρ id hn.1]; exact .pr id τ ix sub h0 (ih hn.2)
  | pi ps ws blk off hb _ hc _ ih1 ih => intro hn; simp [noL, V.no] at hn; exact .pi ps ws blk off (hI _ hb) (ih1 hn.1) (cellsAt_mono (hw _ hb) hc) (ih hn.2)
  | sl0 τ a cap _ ih => intro hn; simp [noL, V.no] at hn; exact .sl0 τ a cap (ih hn)
  | sl τ xs blk off cap g hb hl ho _ hc _ ih1 ih =>
    intro hn; simp [noL, V.no] at hn
    exact .sl τ xs blk off cap g (hI _ hb) hl ho (fun n h => ih1 n h (noL_enc _ _ _)) (fun n h => cellsAt_mono (hw _ hb) (hc n h)) (ih hn)
  | ow id τ off len a h1 h2 h3 h5 h4 _ ih =>
    intro hn; simp [noL, V.no] at hn
    rw [← hρ id hn.1]; exact .ow id τ off len a h1 h2 (by rw [hρ id hn.1]; exact h3) h5 (by rw [hρ id hn.1]; exact h4) (ih hn.2)
  | ar τ xs ws _ _ ih1 ih => intro hn; simp [noL, V.no] at hn; exact .ar τ xs ws (ih1 (noL_flat _ _ _)) (ih hn)
  | fn f caps ws _ _ ih1 ih => intro hn; simp [noL, V.no] at hn; exact .fn f caps ws (ih1 hn.1) (ih hn.2)
  | mp id _ ih => intro hn; simp [noL, V.no] at hn; rw [← hρ id hn.1]; exact .mp id (ih hn.2)
  | ifc t t' v x h0 _ _ ih1 ih => intro hn; simp [noL, V.no] at hn; exact .ifc t t' v x h0 (fun hv => ih1 hv (by simp [noL, hn.1])) (ih hn.2)
  | ifa t ps ws _ _ ih1 ih => intro hn; simp [noL, V.no] at hn; exact .ifa t ps ws (ih1 hn.1) (ih hn.2)

/-- The value of a temporary. -/
def DenV1 (ρ : Nat → Place) (I : Nat → Prop) (w : World) (v : V) (x : Value) : Prop :=
  match v with
  | .agg cs => ∃ vs : List Value, x = .agg vs.toArray ∧ DenL ρ I w cs vs
  | .junk => True
  | v => DenL ρ I w [v] [x]

inductive DenT (ρ : Nat → Place) (I : Nat → Prop) (w : World) : List V → List Value → Prop
  | nil : DenT ρ I w [] []
  | cons {v x vs xs} : DenV1 ρ I w v x → DenT ρ I w vs xs → DenT ρ I w (v :: vs) (x :: xs)

def DenV (ρ : Nat → Place) (I : Nat → Prop) (w : World) (v : V) (x : Value) : Prop :=
  match v with
  | .tup vs => ∃ xs : List Value, x = .tuple xs.toArray ∧ DenT ρ I w vs xs
  | v => DenV1 ρ I w v x

section
variable {ρ ρ' : Nat → Place} {I I' : Nat → Prop} {w w' : World} {N : Nat → Bool}
theorem DenV1.mono (hI : ∀ b, I b → I' b) (hw : ∀ b, I b → w'.heap[b]? = w.heap[b]?) (hρ : ∀ id, N id = false → ρ' id = ρ id) {v : V} {x : Value}
    (h : DenV1 ρ I w v x) (hn : v.no N = true) : DenV1 ρ' I' w' v x := by
  cases v <;> first
    | trivial
    | (obtain ⟨vs, rfl, h⟩ := h; exact ⟨vs, rfl, h.mono hI hw hρ (by simpa [V.no] using hn)⟩)
    | exact DenL.mono hI hw hρ h (by simpa [noL] using hn)

theorem DenT.mono (hI : ∀ b, I b → I' b) (hw : ∀ b, I b → w'.heap[b]? = w.heap[b]?) (hρ : ∀ id, N id = false → ρ' id = ρ id) {v : List V} {x : List Value}
    (h : DenT ρ I w v x) : noL N v = true → DenT ρ' I' w' v x := by
  induction h with
  | nil => intro _; exact .nil
  | cons h1 _ ih => intro hn; simp [noL] at hn; exact .cons (h1.mono hI hw hρ hn.1) (ih hn.2)

theorem DenV.mono (hI : ∀ b, I b → I' b) (hw : ∀ b, I b → w'.heap[b]? = w.heap[b]?) (hρ : ∀ id, N id = false → ρ' id = ρ id) {v : V} {x : Value}
    (h : DenV ρ I w v x) (hn : v.no N = true) : DenV ρ' I' w' v x := by
  cases v <;> first
    | trivial
    | (obtain ⟨vs, rfl, h⟩ := h; exact ⟨vs, rfl, h.mono hI hw hρ (by simpa [V.no] using hn)⟩)
    | exact DenL.mono hI hw hρ h (by simpa [noL] using hn)
end

def unfr (fr : Nat × Nat) (n : Nat) : Prop := ∀ j, j < n → ¬ (fr.1 ≤ j ∧ j < fr.2)

/-- the rows of bytes are of bytes. -/
def okTy : Ty → Nat → Bool
  | .int .u8, T => T == 5
  | _, _ => true

def RowOk (ρ : Nat → Place) (I : Nat → Prop) (w : World) (p : Place) (τ : Ty) (xs : List τ.den) : Prop :=
  (p.cap = 0 ∧ xs = []) ∨ (0 < p.cap ∧ ∃ (arr : Array Value) (T : TypeId) (fr : Nat × Nat) (g : Nat → List Value),
      w.heap[p.blk]? = some (.cells arr T fr) ∧ unfr fr arr.size ∧ p.off + p.cap * τ.size ≤ arr.size ∧ xs.length ≤ p.cap ∧
      (∀ n (h : n < xs.length), DenL ρ I w (enc τ xs[n]) (g n)) ∧ (∀ n, n < xs.length → cellsAt w p.blk (p.off + n * τ.size) (g n)) ∧ okTy τ T = true)

/-- a value of a type, in a map. -/
def ElV (ρ : Nat → Place) (I : Nat → Prop) (w : World) (τ : Ty) (x : τ.den) (v : Value) : Prop :=
  match τ.agg with
  | true => ∃ vs : List Value, v = .agg vs.toArray ∧ DenL ρ I w (enc τ x) vs
  | false => DenL ρ I w (enc τ x) [v]

inductive MapOk (ρ : Nat → Place) (I : Nat → Prop) (w : World) (κ υ : Ty) : List (κ.den × υ.den) → List MapEntry → Prop
  | nil : MapOk ρ I w κ υ [] []
  | cons {es ms} (k : κ.den) (x : υ.den) (m : MapEntry) : ElV ρ I w κ k m.key → ElV ρ I w υ x m.val → MapOk ρ I w κ υ es ms → MapOk ρ I w κ υ ((k, x) :: es) (m :: ms)

def ObjOk (ρ : Nat → Place) (I : Nat → Prop) (w : World) (p : Place) : XObj → Prop
  | .cells cs => ∃ (vs : List Value) (T : TypeId) (fr : Nat × Nat), w.heap[p.blk]? = some (.cells vs.toArray T fr) ∧ DenL ρ I w cs vs ∧ unfr fr vs.length
  | .row τ xs => RowOk ρ I w p τ xs
  | .tc T cs => ∃ (vs : List Value) (fr : Nat × Nat), w.heap[p.blk]? = some (.cells vs.toArray T fr) ∧ DenL ρ I w cs vs ∧ unfr fr vs.length
  | .rowc τ xs c => c = (p.cap : Int) ∧ RowOk ρ I w p τ xs
  | .mp κ υ es => ∃ (ms : List MapEntry) (clock : Nat), w.heap[p.blk]? = some (.map ms.toArray clock) ∧ MapOk ρ I w κ υ es ms

def owns (p : Place) : XObj → Prop
  | .cells _ | .tc _ _ | .mp _ _ _ => True
  | .row _ _ | .rowc _ _ _ => 0 < p.cap

def XObj.no (N : Nat → Bool) : XObj → Bool
  | .cells cs | .tc _ cs => noL N cs
  | .row _ _ | .rowc _ _ _ | .mp _ _ _ => true

abbrev Hf := Nat → Option XObj

def Own (ρ : Nat → Place) (h : Hf) (b : Nat) : Prop := ∃ id o, h id = some o ∧ owns (ρ id) o ∧ (ρ id).blk = b

/-- the package's variables that nobody writes. -/
def globs : List (Nat × List V) := [(0, [.ifc 85 .junk]), (1, [.ifc 85 .junk]), (3, [.ar (.int .u8) 32 [0, 1, 28, 2, 29, 14, 24, 3, 30, 22, 20, 15, 25, 17, 4, 8, 31, 27, 13, 23, 21, 19, 16, 7, 26, 12, 18, 6, 11, 5, 10, 9]])]

def lk {α : Type} : List (Nat × α) → Nat → Option α
  | [], _ => none
  | (m, x) :: r, n => if m = n then some x else lk r n

def Glob (I : Nat → Prop) (w : World) : Prop := ∀ g cs, lk globs g = some cs → I g ∧ ∃ vs, DenL (fun _ => ⟨0, 0, 0⟩) I w cs vs ∧ cellsAt w g 0 vs

theorem Glob.mono {I I' : Nat → Prop} {w w' : World} (hI : ∀ b, I b → I' b) (hw : ∀ b, I b → w'.heap[b]? = w.heap[b]?) (h : Glob I w) : Glob I' w' := by
  intro g cs hg
  obtain ⟨h1, vs, h2, h3⟩ := h g cs hg
  refine ⟨hI _ h1, vs, h2.mono (N := fun _ => true) hI hw (fun _ h => by cases h) ?_, cellsAt_mono (hw _ h1) h3⟩
  unfold globs at hg
  simp only [lk] at hg
  repeat (split at hg; · (injection hg with hg; subst hg; simp [noL, V.no]))
  cases hg

theorem globs_no {g : Nat} {cs : List V} (h : lk globs g = some cs) (N : Nat → Bool) : noL N cs = true := by
  unfold globs at h
  simp only [lk] at h
  repeat (split at h; · (injection h with h; subst h; simp [noL, V.no]))
  cases h

structure RH (ρ : Nat → Place) (I : Nat → Prop) (w : World) (h : Hf) : Prop where
  glob : Glob I w
  ok : ∀ id o, h id = some o → ObjOk ρ I w (ρ id) o
  apart : ∀ id o id' o', h id = some o → h id' = some o' → id ≠ id' → owns (ρ id) o → owns (ρ id') o' → (ρ id).blk ≠ (ρ id').blk
  own : ∀ id o, h id = some o → owns (ρ id) o → ¬ I (ρ id).blk
  lt : ∀ b, I b → b < w.heap.size

theorem RH.ownLt {ρ I w h} (H : RH ρ I w h) {b : Nat} (hb : Own ρ h b) : b < w.heap.size := by
  obtain ⟨id, o, ho, hw, rfl⟩ := hb
  have := H.ok id o ho
  have key : ∀ x, w.heap[(ρ id).blk]? = some x → (ρ id).blk < w.heap.size := by
    intro x hx
    rcases Nat.lt_or_ge (ρ id).blk w.heap.size with h | h
    · exact h
    · simp [Array.getElem?_eq_none h] at hx
  cases o with
  | cells cs => obtain ⟨vs, T, fr, h1, _⟩ := this; exact key _ h1
  | tc T cs => obtain ⟨vs, fr, h1, _⟩ := this; exact key _ h1
  | mp κ υ es => obtain ⟨ms, c, h1, _⟩ := this; exact key _ h1
  | row τ xs =>
    rcases this with ⟨h0, _⟩ | ⟨_, arr, T, fr, g, h1, _⟩
    · simp [owns, h0] at hw
    · exact key _ h1
  | rowc τ xs c =>
    rcases this with ⟨_, ⟨h0, _⟩ | ⟨_, arr, T, fr, g, h1, _⟩⟩
    · simp [owns, h0] at hw
    · exact key _ h1

theorem RH.notI {ρ I w h} (H : RH ρ I w h) {b : Nat} (hb : Own ρ h b) : ¬ I b := by
  obtain ⟨id, o, ho, hw, rfl⟩ := hb
  exact H.own id o ho hw

def SameRest (w w' : World) : Prop := w'.os = w.os ∧ w'.tape = w.tape ∧ w'.output = w.output

/-- What a step that is given a part of the heap does to all. -/
structure Loc (ρ : Nat → Place) (I : Nat → Prop) (w : World) (hf : Hf) (ρ' : Nat → Place) (I' : Nat → Prop) (w' : World) (hf' : Hf) (N : Nat → Bool) : Prop where
  keep : ∀ b, b < w.heap.size → ¬ Own ρ hf b → w'.heap[b]? = w.heap[b]?
  size : w.heap.size ≤ w'.heap.size
  up : ∀ b, I b → I' b
  down : ∀ b, I' b → I b ∨ Own ρ hf b ∨ w.heap.size ≤ b
  own : ∀ b, Own ρ' hf' b → Own ρ hf b ∨ w.heap.size ≤ b
  place : ∀ id, N id = false → ρ' id = ρ id
  rest : SameRest w w'

theorem Loc.keepI {ρ I w hf ρ' I' w' hf' N} (L : Loc ρ I w hf ρ' I' w' hf' N) (H : RH ρ I w hf) : ∀ b, I b → w'.heap[b]? = w.heap[b]? :=
  fun b hb => L.keep b (H.lt b hb) (fun h => H.notI h hb)

theorem RowOk.mono {ρ ρ' : Nat → Place} {I I' : Nat → Prop} {w w' : World} {N : Nat → Bool} (hI : ∀ b, I b → I' b)
    (hw : ∀ b, I b → w'.heap[b]? = w.heap[b]?) (hρ : ∀ id, N id = false → ρ' id = ρ id) {p : Place} {τ : Ty} {xs : List τ.den}
    (h : RowOk ρ I w p τ xs) (hb : 0 < p.cap → w'.heap[p.blk]? = w.heap[p.blk]?) : RowOk ρ' I' w' p τ xs := by
  rcases h with h | ⟨h0, arr, T, fr, g, h1, h2, h3, h4, h5, h6, h7⟩
  · exact .inl h
  · exact .inr ⟨h0, arr, T, fr, g, by rw [hb h0]; exact h1, h2, h3, h4, fun n h => (h5 n h).mono hI hw hρ (noL_enc _ _ _), fun n h => cellsAt_mono (hb h0) (h6 n h), h7⟩

theorem ElV.mono {ρ ρ' : Nat → Place} {I I' : Nat → Prop} {w w' : World} (hI : ∀ b, I b → I' b)
    (hw : ∀ b, I b → w'.heap[b]? = w.heap[b]?) {τ : Ty} {x : τ.den} {v : Value} (h : ElV ρ I w τ x v) : ElV ρ' I' w' τ x v := by
  unfold ElV at h ⊢
  split at h
  · obtain ⟨vs, rfl, h⟩ := h
    exact ⟨vs, rfl, h.mono (N := fun _ => true) hI hw (fun _ h => by cases h) (noL_enc _ _ _)⟩
  · exact h.mono (N := fun _ => true) hI hw (fun _ h => by cases h) (noL_enc _ _ _)

theorem MapOk.mono {ρ ρ' : Nat → Place} {I I' : Nat → Prop} {w w' : World} (hI : ∀ b, I b → I' b)
    (hw : ∀ b, I b → w'.heap[b]? = w.heap[b]?) {κ υ : Ty} {es : List (κ.den × υ.den)} {ms : List MapEntry} (h : MapOk ρ I w κ υ es ms) : MapOk ρ' I' w' κ υ es ms := by
  induction h with
  | nil => exact .nil
  | cons k x m h1 h2 _ ih => exact .cons k x m (h1.mono hI hw) (h2.mono hI hw) ih

theorem ObjOk.mono {ρ ρ' : Nat → Place} {I I' : Nat → Prop} {w w' : World} {N : Nat → Bool} (hI : ∀ b, I b → I' b)
    (hw : ∀ b, I b → w'.heap[b]? = w.heap[b]?) (hρ : ∀ id, N id = false → ρ' id = ρ id) {p : Place} {o : XObj}
    (h : ObjOk ρ I w p o) (hn : o.no N = true) (hb : owns p o → w'.heap[p.blk]? = w.heap[p.blk]?) : ObjOk ρ' I' w' p o := by
  cases o with
  | cells cs =>
    obtain ⟨vs, T, fr, h1, h2, h3⟩ := h
    exact ⟨vs, T, fr, by rw [hb trivial]; exact h1, h2.mono hI hw hρ hn, h3⟩
  | tc T cs =>
    obtain ⟨vs, fr, h1, h2, h3⟩ := h
    exact ⟨vs, fr, by rw [hb trivial]; exact h1, h2.mono hI hw hρ hn, h3⟩
  | mp κ υ es =>
    obtain ⟨ms, c, h1, h2⟩ := h
    exact ⟨ms, c, by rw [hb trivial]; exact h1, h2.mono hI hw⟩
  | row τ xs => exact RowOk.mono hI hw hρ h hb
  | rowc τ xs c => exact ⟨h.1, RowOk.mono hI hw hρ h.2 hb⟩

def Hf.part (h : Hf) (F : Nat → Bool) : Hf := fun id => if F id then h id else none
def Hf.put (h hf' : Hf) (F N : Nat → Bool) : Hf := fun id => if F id || N id then hf' id else h id

theorem RH.part {ρ I w h} (H : RH ρ I w h) (F : Nat → Bool) : RH ρ I w (h.part F) where
  glob := H.glob
  ok id o ho := by simp only [Hf.part] at ho; split at ho; exact H.ok id o ho; cases ho
  apart id o id' o' ho ho' := by
    simp only [Hf.part] at ho ho'
    split at ho
    · split at ho'
      · exact H.apart id o id' o' ho ho'
      · cases ho'
    · cases ho
  own id o ho := by simp only [Hf.part] at ho; split at ho; exact H.own id o ho; cases ho
  lt := H.lt

/-- The rest of the heap stays, when a step is given a part of it. -/
theorem RH.frame {ρ I w h ρ' I' w' hf' N} {F : Nat → Bool} (H : RH ρ I w h) (L : Loc ρ I w (h.part F) ρ' I' w' hf' N) (H' : RH ρ' I' w' hf')
    (hn : ∀ id o, h id = some o → F id = false → N id = false → o.no N = true) :
    RH ρ' I' w' (h.put hf' F N) := by
  have hkI : ∀ b, I b → w'.heap[b]? = w.heap[b]? := L.keepI (H.part F)
  have notOwn : ∀ id o, h id = some o → F id = false → owns (ρ id) o → ¬ Own ρ (h.part F) (ρ id).blk := by
    rintro id o ho hF hw ⟨id', o', ho', hw', hb⟩
    simp only [Hf.part] at ho'
    split at ho'
    · rename_i hF'
      exact H.apart id' o' id o ho' ho (by intro e; subst e; simp [hF] at hF') hw' hw hb
    · cases ho'
  have lt : ∀ id o, h id = some o → owns (ρ id) o → (ρ id).blk < w.heap.size := fun id o ho hw => H.ownLt ⟨id, o, ho, hw, rfl⟩
  refine ⟨H'.glob, ?_, ?_, ?_, ?_⟩
  · intro id o ho
    simp only [Hf.put] at ho
    split at ho
    · exact H'.ok id o ho
    · rename_i hc
      simp only [Bool.or_eq_true, not_or, Bool.not_eq_true] at hc
      rw [L.place id hc.2]
      exact (H.ok id o ho).mono L.up hkI L.place (hn id o ho hc.1 hc.2) (fun hw => L.keep _ (lt id o ho hw) (notOwn id o ho hc.1 hw))
  · intro id o id' o' ho ho' hne hw hw'
    simp only [Hf.put] at ho ho'
    split at ho
    · split at ho'
      · exact H'.apart id o id' o' ho ho' hne hw hw'
      · rename_i hc
        simp only [Bool.or_eq_true, not_or, Bool.not_eq_true] at hc
        rw [L.place id' hc.2] at hw' ⊢
        intro hb
        rcases L.own _ ⟨id, o, ho, hw, rfl⟩ with h1 | h1
        · rw [hb] at h1; exact notOwn id' o' ho' hc.1 hw' h1
        · have := lt id' o' ho' hw'; omega
    · rename_i hc
      simp only [Bool.or_eq_true, not_or, Bool.not_eq_true] at hc
      rw [L.place id hc.2] at hw ⊢
      split at ho'
      · intro hb
        rcases L.own _ ⟨id', o', ho', hw', rfl⟩ with h1 | h1
        · rw [← hb] at h1; exact notOwn id o ho hc.1 hw h1
        · have := lt id o ho hw; omega
      · rename_i hc'
        simp only [Bool.or_eq_true, not_or, Bool.not_eq_true] at hc'
        rw [L.place id' hc'.2] at hw' ⊢
        exact H.apart id o id' o' ho ho' hne hw hw'
  · intro id o ho hw
    simp only [Hf.put] at ho
    split at ho
    · exact H'.own id o ho hw
    · rename_i hc
      simp only [Bool.or_eq_true, not_or, Bool.not_eq_true] at hc
      rw [L.place id hc.2] at hw ⊢
      intro hI'
      rcases L.down _ hI' with h1 | h1 | h1
      · exact H.own id o ho hw h1
      · exact notOwn id o ho hc.1 hw h1
      · have := lt id o ho hw; omega
  · exact H'.lt

end GoX
/- The abstract machine: code with its types' numbers worked in ('XC'), how it is made of the program's code ('comp'), and what is to be shown for it ('XK'). -/
set_option autoImplicit false
namespace GoX
open Go

inductive XO where
  | t (n : Nat)
  | v (x : V)

inductive EK where
  | b | p | sl | if_ | m

/-- the kinds of the cells that are compared. -/
inductive CK where
  | b
  | i (k : IntKind)
  | s
  | ar (k : IntKind) (n : Nat)
  deriving DecidableEq

inductive XOp where
  | mv (x : XO)
  | pick (c a b : XO)
  | new (cs : List V)
  | box (x : XO)
  | bld (cs : List V) (parts : List (Nat × Nat × XO))
  | bsl (τ : Ty) (parts : List XO)
  | ld (x : XO) (size : Nat) (agg : Bool)
  | st (a x : XO) (size : Nat)
  | nchk (x : XO)
  | bin (op : BinOp) (x y : XO)
  | eqs (neg : Bool) (sh : List CK) (x y : XO)
  | eqk (k : EK) (neg : Bool) (x y : XO)
  | eqi (neg : Bool) (ts : List (Nat × IntKind)) (x y : XO)
  | un (op : UnOp) (x : XO)
  | ci (k : IntKind) (x : XO)
  | sid (x : XO)
  | s2b (x : XO)
  | b2s (x : XO)
  | mkif (t : Nat) (x : XO)
  | mkfn (f : Nat) (caps : List XO)
  | sls (x : XO) (lo hi : Option XO)
  | slo (τ : Ty) (x : XO) (lo hi : Option XO)
  | fa (x : XO) (off : Nat)
  | fd (x : XO) (off size : Nat) (agg : Bool)
  | ia (τ : Ty) (x i : XO)
  | iap (n : Nat) (τ : Ty) (x i : XO)
  | ixs (x i : XO)
  | ixa (n : Nat) (τ : Ty) (agg : Bool) (x i : XO)
  | ext (x : XO) (n : Nat)
  | call (f : XO) (args : List XO)
  | len (str : Bool) (x : XO)
  | app (τ : Ty) (x y : XO)
  | mn (x : XO) (ys : List XO)
  | mx (x : XO) (ys : List XO)
  | pan (x : XO)
  | boxi (x : XO)
  | newt (T : Nat) (cs : List V)
  | bla (cs : List V) (parts : List (Nat × XO))
  | slm (τ : Ty) (x lo hi mx : XO)
  | sla (n : Nat) (τ : Ty) (x : XO)
  | cap (x : XO)
  | cpy (τ : Ty) (x y : XO)
  | clr (τ : Ty) (d : τ.den) (x : XO)
  | appm (τ : Ty) (d : τ.den) (x k : XO)
  | mks (τ : Ty) (d : τ.den) (l : XO)
  | mkm (κ υ : Ty)
  | lkp (κ υ : Ty) (d : υ.den) (ok : Bool) (x i : XO)
  | mup (κ υ : Ty) (m k v : XO)
  | uid (T n : Nat) (x : XO)
  | usd (x : XO)
  | ust (x n : XO)

structure XOper where
  dst : Option Nat
  op : XOp
  guard : Option (Nat × Bool)
  bef : List Nat

inductive XC where
  | skip
  | ops (draw : Bool) (l : List XOper)
  | seq (a b : XC)
  | cond (c : XO) (a b : XC)
  | block (id : Nat) (c : XC)
  | loop (c : XC)
  | exit (id : Nat)
  | ret
  | bad

/-! making it -/

structure Setting where
  P : Program
  ety : TypeId → Option Ty
  zero : TypeId → Option (List V)
  typed : TypeId → Bool
  boxi : Bool
  cmpT : List (TypeId × IntKind)

instance (n : Nat) : Decidable (okLen n) := inferInstanceAs (Decidable (n ≤ _))

def okInt (k : IntKind) (x : Int) : Bool := decide (k.min ≤ x) && decide (x ≤ k.max)

def ofCell : Value → Option V
  | .bool b => some (.b b)
  | .int k n => if okInt k n then some (.i k n) else none
  | .string s => if decide (okLen s.size) then some (.s (toInts s)) else none
  | .pointer none => some .np
  | .slice none 0 0 => some .ns
  | .nilFunc => some .nf
  | .nilIface => some .ni
  | .map none => some .nm
  | .float .f64 n => some (.f n)
  | _ => none

def ofValue : Value → Option V
  | .agg cs => (cs.toList.mapM ofCell).map .agg
  | v => ofCell v

def ofOpd : Operand → Option XO
  | .tmp t => some (.t t)
  | .const v => (ofValue v).map .v
  | .func f => some (.v (.fn f []))
  | .global g => (lk globs g).map fun cs => .v (.pi cs)

section
variable (S : Setting)

def Setting.size (t : TypeId) : Option Nat := (S.P.info? t).map (·.size)
def Setting.isAgg (t : TypeId) : Option Bool :=
  match S.P.underlying t with
  | some (.struct _) | some (.array _ _) => some true
  | some _ => some false
  | none => none

/-- The element type of a slice's type. -/
def Setting.elem (t : TypeId) : Option (TypeId × Ty) :=
  match S.P.underlying t with
  | some (.slice e) => match S.ety e, S.size e with
    | some τ, some n => if n = τ.size then some (e, τ) else none
    | _, _ => none
  | _ => none

/-- The element type of an array's type. -/
def Setting.aelem (t : TypeId) : Option (Nat × TypeId × Ty) :=
  match S.P.underlying t with
  | some (.array n e) => match S.ety e, S.size e with
    | some τ, some m => if m = τ.size && decide (2 ≤ n) then some (n, e, τ) else none
    | _, _ => none
  | _ => none

def ckLen : List CK → Nat
  | [] => 0
  | .ar _ n :: l => n + ckLen l
  | _ :: l => 1 + ckLen l

def kfields (P : Program) (g : TypeId → Option (List CK)) : List Field → Nat → Option (List CK)
  | [], _ => some []
  | f :: fs, off => if f.offset = off ∧ f.name ≠ "_" then
      match g f.type, kfields P g fs (off + P.cellsOf f.type) with
      | some l, some r => if ckLen l = P.cellsOf f.type then some (l ++ r) else none
      | _, _ => none
    else none

/-- the kinds of the cells of a type whose values are compared. -/
def kshape (P : Program) : Nat → TypeId → Option (List CK)
  | 0, _ => none
  | d + 1, t => match P.underlying t with
    | some .bool => some [.b]
    | some (.int k) => some [.i k]
    | some .string => some [.s]
    | some (.array n e) => match P.underlying e with
      | some (.int k) => if P.cellsOf e = 1 ∧ P.cellsOf t = n ∧ d ≠ 0 then some [.ar k n] else none
      | _ => none
    | some (.struct fs) => match kfields P (kshape P d) fs.toList 0 with
      | some l => if ckLen l = P.cellsOf t then some l else none
      | none => none
    | _ => none

def compSlot (e : TypeId) (n : Nat) : List (Nat × XO) → Nat → Option (List XO)
  | [], i => if i = n then some [] else none
  | (j, x) :: r, i => if i = j then (compSlot e n r (i + 1)).map (x :: ·) else none

def Setting.cmpOk (t : TypeId) (k : IntKind) : Bool := (match S.P.info? t with | some i => i.comparable | none => false) && (match S.P.underlying t with | some (.int k') => decide (k = k') | _ => false)

def compEq (neg : Bool) (t : TypeId) (d : TypeDesc) (x y : Operand) : Option XOp :=
  match d with
  | .struct _ | .array _ _ => do if S.P.keyTypeAt 20 t && !S.P.eqGuardType S.P.depth t then pure (.eqs neg (← kshape S.P 20 t) (← ofOpd x) (← ofOpd y)) else none
  | .int _ | .string | .float _ => do pure (.bin (if neg then .neq else .eql) (← ofOpd x) (← ofOpd y))
  | .bool => do pure (.eqk .b neg (← ofOpd x) (← ofOpd y))
  | .pointer e => if (S.P.info? e).isSome then do pure (.eqk .p neg (← ofOpd x) (← ofOpd y)) else none
  | .slice _ => do pure (.eqk .sl neg (← ofOpd x) (← ofOpd y))
  | .map _ _ => do pure (.eqk .m neg (← ofOpd x) (← ofOpd y))
  | .interface _ => match y with
    | .const _ => do pure (.eqk .if_ neg (← ofOpd x) (← ofOpd y))
    | _ => if S.cmpT.all (fun p => S.cmpOk p.1 p.2) then do pure (.eqi neg S.cmpT (← ofOpd x) (← ofOpd y)) else none
  | _ => none

def aggV : Value → Bool
  | .agg _ => true
  | _ => false

/-- the zero value of a map's elements. -/
def Setting.elz (t : TypeId) (υ : Ty) : Option υ.den := do
  let i ← S.P.info? t
  let z ← i.zero
  let cs ← S.zero t
  let d ← dec υ cs
  if aggV z = υ.agg then some d else none

def Setting.intFields (t : TypeId) : Bool := match S.P.underlying t with
  | some (.struct fs) => fs.toList.all fun f => match S.P.underlying f.type with
    | some (.int _) => true
    | _ => false
  | _ => false

/-- is a map by such keys one by these data? -/
def Setting.keyOk (t : TypeId) : Ty → Bool
  | .str => match S.P.underlying t with
    | some .string => true
    | _ => false
  | .spot => S.P.keyTypeAt 20 t && !S.P.eqGuardType S.P.depth t && decide (kshape S.P 20 t = some [.i .u8, .i .i64]) && S.intFields t
  | .pair => S.P.keyTypeAt 20 t && !S.P.eqGuardType S.P.depth t && decide (kshape S.P 20 t = some [.i .u8, .i .u8]) && S.intFields t
  | .entry => S.P.keyTypeAt 20 t && !S.P.eqGuardType S.P.depth t && decide (kshape S.P 20 t = some [.i .i64, .i .u8, .i .i64, .s]) && (match S.P.underlying t with | some (.struct _) => true | _ => false)
  | _ => false

/-- a block of cells of the type, seen by an unsafe pointer. -/
def Setting.uidOk (t : TypeId) : Bool := (match S.P.info? t with | some i => decide (i.size ≠ 0) | none => false) &&
  decide (0 < S.P.cellsOf t) && liesAt S.P S.P.depth t 1 0 t 1

/-- the zero value of an array. -/
def arOk (n : Nat) (τ : Ty) : List V → Bool
  | [.ar τ' n' xs] => decide (τ' = τ ∧ n' = n ∧ xs.length = n)
  | _ => false

def compOp (o : Oper) : Option XOp :=
  match o.op with
  | .move x | .assign x => (ofOpd x).map .mv
  | .pick c a b => do pure (.pick (← ofOpd c) (← ofOpd a) (← ofOpd b))
  | .alloc t => (S.zero t).map (if S.typed t then .newt t else .new)
  | .box _ x => (ofOpd x).map (if S.boxi then .boxi else .box)
  | .build t ps =>
    match S.P.underlying t with
    | some (.struct fs) => do
      let cs ← S.zero t
      if !(fs.toList.all fun f => (S.P.info? f.type).isSome) then none
      let parts ← ps.toList.mapM fun (i, x) => do
        let f ← fs[i]?
        pure (f.offset, ← S.size f.type, ← ofOpd x)
      pure (.bld cs parts)
    | some (.array _ _) => do
      let (n, _, τ) ← S.aelem t
      let cs ← S.zero t
      let parts ← ps.toList.mapM fun (i, x) => do pure (i, ← ofOpd x)
      if arOk n τ cs && parts.all (fun p => decide (p.1 < n)) then pure (.bla cs parts) else none
    | _ => none
  | .buildSlice t n ps => do
    let (e, τ) ← S.elem t
    let i ← S.P.info? e
    let _ ← i.zero
    let parts ← ps.toList.mapM fun (i, x) => do pure (i, ← ofOpd x)
    let l ← compSlot e n parts 0
    if n ≤ 64 ∧ okTy τ e = true then pure (.bsl τ l) else none
  | .load t a => do pure (.ld (← ofOpd a) (← S.size t) (← S.isAgg t))
  | .store t a x => do pure (.st (← ofOpd a) (← ofOpd x) (← S.size t))
  | .nilCheck x => (ofOpd x).map .nchk
  | .binOp op t x y _ =>
    match op, S.P.underlying t with
    | .eql, some d => compEq S false t d x y
    | .neq, some d => compEq S true t d x y
    | _, some .unsafePointer => none
    | _, some _ => do pure (.bin op (← ofOpd x) (← ofOpd y))
    | _, none => none
  | .unOp op _ x => (ofOpd x).map (.un op)
  | .convert s d x =>
    match S.P.underlying s, S.P.underlying d with
    | some (.int _), some (.int k) => (ofOpd x).map (.ci k)
    | some .string, some .string => (ofOpd x).map .sid
    | some .string, some (.slice e) => match S.P.underlying e, S.ety e with
      | some (.int .u8), some (.int .u8) => if okTy (.int .u8) e then (ofOpd x).map .s2b else none
      | _, _ => none
    | some (.slice e), some .string => match S.P.underlying e, S.ety e with
      | some (.int .u8), some (.int .u8) => (ofOpd x).map .b2s
      | _, _ => none
    | some (.pointer t), some .unsafePointer | some .unsafePointer, some (.pointer t) => if S.uidOk t then (ofOpd x).map (.uid t (S.P.cellsOf t)) else none
    | _, _ => none
  | .makeSlice t (.tmp a) (.tmp b) =>
    if a = b then do
      let (e, τ) ← S.elem t
      let i ← S.P.info? e
      let cs ← S.zero e
      let d ← dec τ cs
      if decide (i.bytes ≤ 1024) && decide (0 < τ.size) && okTy τ e then pure (.mks τ d (.t a)) else none
    else none
  | .makeMap t none => match S.P.underlying t with
    | some (.map k e) => do pure (.mkm (← S.ety k) (← S.ety e))
    | _ => none
  | .lookup t x i ok => match S.P.underlying t with
    | some (.map k e) => do
      let κ ← S.ety k
      let υ ← S.ety e
      let d ← S.elz e υ
      if S.keyOk k κ then pure (.lkp κ υ d ok (← ofOpd x) (← ofOpd i)) else none
    | _ => none
  | .mapUpdate t m k v => match S.P.underlying t with
    | some (.map kt e) => do
      let κ ← S.ety kt
      let υ ← S.ety e
      if S.keyOk kt κ then pure (.mup κ υ (← ofOpd m) (← ofOpd k) (← ofOpd v)) else none
    | _ => none
  | .makeInterface t x => match S.P.underlying t with
    | some (.interface _) | none => none
    | some _ => (ofOpd x).map (.mkif t)
  | .makeFunc (.func f) first caps => if first.toList = [] then (caps.toList.mapM ofOpd).map (.mkfn f) else none
  | .slice t x lo hi none =>
    match S.P.underlying t with
    | some .string => do pure (.sls (← ofOpd x) (← lo.mapM ofOpd) (← hi.mapM ofOpd))
    | some (.slice _) => do let (_, τ) ← S.elem t; pure (.slo τ (← ofOpd x) (← lo.mapM ofOpd) (← hi.mapM ofOpd))
    | some (.array _ _) => match lo, hi with
      | none, none => do let (n, _, τ) ← S.aelem t; if n ≤ 1000 then pure (.sla n τ (← ofOpd x)) else none
      | _, _ => none
    | _ => none
  | .slice t x (some lo) (some hi) (some mx) =>
    match S.P.underlying t with
    | some (.slice _) => do let (_, τ) ← S.elem t; pure (.slm τ (← ofOpd x) (← ofOpd lo) (← ofOpd hi) (← ofOpd mx))
    | _ => none
  | .fieldAddr t x i =>
    match S.P.underlying t with
    | some (.struct fs) => do
      let f ← fs[i]?
      let n ← S.size f.type
      if n = 0 then none else pure (.fa (← ofOpd x) f.offset)
    | _ => none
  | .field t x i =>
    match S.P.underlying t with
    | some (.struct fs) => do
      let f ← fs[i]?
      pure (.fd (← ofOpd x) f.offset (← S.size f.type) (← S.isAgg f.type))
    | _ => none
  | .indexAddr t x i =>
    match S.P.underlying t with
    | some (.slice _) => do let (_, τ) ← S.elem t; pure (.ia τ (← ofOpd x) (← ofOpd i))
    | some (.array _ _) => do let (n, _, τ) ← S.aelem t; pure (.iap n τ (← ofOpd x) (← ofOpd i))
    | _ => none
  | .index t x i =>
    match S.P.underlying t with
    | some .string => do pure (.ixs (← ofOpd x) (← ofOpd i))
    | some (.array _ _) => do let (n, e, τ) ← S.aelem t; pure (.ixa n τ (← S.isAgg e) (← ofOpd x) (← ofOpd i))
    | _ => none
  | .extract x n => (ofOpd x).map (.ext · n)
  | .call c =>
    match c.callee with
    | .value f => do pure (.call (← ofOpd f) (← c.args.toList.mapM ofOpd))
    | .builtin .len =>
      match c.args.toList, (c.argTypes[0]?).bind S.P.underlying with
      | [x], some .string => (ofOpd x).map (.len true)
      | [x], some (.slice _) => (ofOpd x).map (.len false)
      | _, _ => none
    | .builtin .append =>
      match c.args.toList, c.argTypes.toList with
      | [x, y], [t, u] => do
        let (e, τ) ← S.elem t
        let i ← S.P.info? e
        match S.P.underlying u with
        | some (.int _) => do
          let cs ← S.zero e
          let d ← dec τ cs
          if decide (i.bytes ≤ 1024) && decide (0 < τ.size) && okTy τ e && decide (0 < i.bytes) then pure (.appm τ d (← ofOpd x) (← ofOpd y)) else none
        | none => none
        | some _ => if decide (i.bytes ≤ 1024) && i.zero.any (fun z => z.cells.size == τ.size) && okTy τ e then pure (.app τ (← ofOpd x) (← ofOpd y)) else none
      | _, _ => none
    | .builtin .cap =>
      match c.args.toList, (c.argTypes[0]?).bind S.P.underlying with
      | [x], some (.slice _) => (ofOpd x).map .cap
      | _, _ => none
    | .builtin .copy =>
      match c.args.toList, c.argTypes[0]? with
      | [x, y], some t => do let (_, τ) ← S.elem t; pure (.cpy τ (← ofOpd x) (← ofOpd y))
      | _, _ => none
    | .builtin .clear =>
      match c.args.toList, c.argTypes.toList with
      | [x], [t] => do
        let (e, τ) ← S.elem t
        let cs ← S.zero e
        let d ← dec τ cs
        pure (.clr τ d (← ofOpd x))
      | _, _ => none
    | .builtin .unsafeSliceData => match c.args.toList with
      | [x] => (ofOpd x).map .usd
      | _ => none
    | .builtin .unsafeString =>
      match c.args.toList, (c.argTypes[0]?).bind S.P.underlying with
      | [x, n], some (.pointer e) => if decide (e = 5) && decide (S.P.cellsOf e = 1) then do pure (.ust (← ofOpd x) (← ofOpd n)) else none
      | _, _ => none
    | .builtin .min => match c.args.toList with
      | x :: ys => do pure (.mn (← ofOpd x) (← ys.mapM ofOpd))
      | [] => none
    | .builtin .max => match c.args.toList with
      | x :: ys => do pure (.mx (← ofOpd x) (← ys.mapM ofOpd))
      | [] => none
    | _ => none
  | .panic x => (ofOpd x).map .pan
  | _ => none

def guardOf (ops : Array Oper) : Option (Nat × Bool) → Option (Option (Nat × Bool))
  | none => some none
  | some (j, w) => match (ops[j]?).bind (·.dst) with
    | some t => some (some (t, w))
    | none => none

def befores (ops : Array Oper) : List (List Nat) :=
  (ops.foldl (init := (#[] : Array (List Nat))) fun acc o =>
    acc.push ((o.after.toList.flatMap fun e => if Region.binds .any e then e.on :: acc.getD e.on [] else []).eraseDups)).toList

def compOper (ops : Array Oper) (o : Oper) (bef : List Nat) : Option XOper := do
  pure { dst := o.dst, op := ← compOp S o, guard := ← guardOf ops o.guard, bef }

/-- every edge leads back. -/
def edgesOk (ops : Array Oper) : Bool :=
  (List.range ops.size).all fun i => match ops[i]? with
    | some o => o.after.all fun e => !Region.binds .any e || decide (e.on < i)
    | none => true

def compOps (draw : Bool) (ops : Array Oper) : Option (List XOper) :=
  if draw && !edgesOk ops then none else (ops.toList.zip (if draw then befores ops else List.replicate ops.size [])).mapM fun (o, b) => compOper S ops o b

def comp : Code → Option XC
  | .skip => some .skip
  | .region _ ops draw => match compOps S draw ops with
    | some l => some (.ops draw l)
    | none => some .bad
  | .seq a b => do pure (.seq (← comp a) (← comp b))
  | .cond c a b => do pure (.cond (← ofOpd c) (← comp a) (← comp b))
  | .block id c => do pure (.block id (← comp c))
  | .loop c => do pure (.loop (← comp c))
  | .exit id => some (.exit id)
  | .ret => some .ret
  | _ => some .bad
end

/-! running it -/

structure St where
  t : List (Nat × V)
  h : List (Nat × XObj)

def St.get (s : St) (n : Nat) : V := (lk s.t n).getD .junk
def St.ev (s : St) : XO → V
  | .t n => s.get n
  | .v x => x

def nid (d : Nat) : Nat := 64 * (d + 1)

def wd : V → Nat
  | .ar τ n _ => n * τ.size
  | _ => 1
def wdL : List V → Nat
  | [] => 0
  | c :: cs => wd c + wdL cs

def dropF : List V → Nat → Option (List V)
  | cs, 0 => some cs
  | [], _ + 1 => none
  | c :: cs, n + 1 => if wd c ≤ n + 1 then dropF cs (n + 1 - wd c) else none

def takeF : List V → Nat → Option (List V)
  | _, 0 => some []
  | [], _ + 1 => none
  | c :: cs, n + 1 => if wd c ≤ n + 1 then (takeF cs (n + 1 - wd c)).map (c :: ·) else none

/-- so many cells from a place on, as other ones. -/
def replF : List V → Nat → List V → Option (List V)
  | cs, 0, ds => (dropF cs (wdL ds)).map (ds ++ ·)
  | [], _ + 1, _ => none
  | c :: cs, n + 1, ds => if wd c ≤ n + 1 then (replF cs (n + 1 - wd c) ds).map (c :: ·) else none

def vcells : V → Option (List V)
  | .agg cs => some cs
  | .junk | .tup _ | .ar _ _ _ => none
  | v => some [v]

def ofCells (agg : Bool) (cs : List V) : Option V :=
  if agg then some (.agg cs) else match cs with
  | [.agg _] | [.tup _] | [.ar _ _ _] => none
  | [c] => some c
  | _ => none

/-- What a step is. 'ok': the ids that it looks at, what is to be shown, the value. -/
inductive R1 where
  | ok (fp : List Nat) (v : V)
  | ask (side : Unit → Prop) (r : R1)
  | any (p : Bool → Prop)
  | allI (p : Int → Prop) (f : Int → R1)
  | upd (rd F : List Nat) (h : List (Nat × XObj)) (v : V)
  | call (f : Nat) (args : List V)
  | pan (v : V)
  | fail

def bitsI (op : BinOp) (k : IntKind) (x y : Int) : Int :=
  let a := BitVec.ofInt k.bits x
  let b := BitVec.ofInt k.bits y
  k.wrap (match op with | .and => a &&& b | .or => a ||| b | .xor => a ^^^ b | _ => a &&& ~~~b).toNat

def eqTB (τ : Ty) (a b : List τ.den) : Bool := match τ, a, b with
  | .int _, a, b => decide ((show List Int from a) = b)
  | _, _, _ => false
def shB (left : Bool) (k : IntKind) (x y : Int) : Int := let n := min y.toNat k.bits; if left then k.wrap (x * 2 ^ n) else x.fdiv (2 ^ n)

/-- are two keys the same? -/
def eqD : (κ : Ty) → κ.den → κ.den → Bool
  | .int _, a, b => decide ((show Int from a) = b)
  | .str, a, b => decide ((show Bs from a) = b)
  | .spot, a, b => decide ((show Spot from a) = b)
  | .pair, a, b => decide ((show Pair from a) = b)
  | .entry, a, b => decide ((show Entry from a) = b)
  | _, _, _ => false
def mapGet {κ υ : Ty} : List (κ.den × υ.den) → κ.den → Option υ.den
  | [], _ => none
  | (k', x) :: es, k => if eqD κ k k' then some x else mapGet es k
def mapSet {κ υ : Ty} : List (κ.den × υ.den) → κ.den → υ.den → List (κ.den × υ.den)
  | [], k, x => [(k, x)]
  | (k', y) :: es, k, x => if eqD κ k k' then (k, x) :: es else (k', y) :: mapSet es k x

/-- The operations on the data, sealed: no evaluation opens them, their laws tell them. -/
structure Ops where
  ln : {α : Type} → List α → Int
  gt : {α : Type} → List α → Int → α → α
  dr : {α : Type} → Int → List α → List α
  tk : {α : Type} → Int → List α → List α
  ap : {α : Type} → List α → List α → List α
  stl : {α : Type} → List α → Int → α → List α
  eqI : Int → Int → Bool
  ltI : Int → Int → Bool
  leI : Int → Int → Bool
  eqS : Bs → Bs → Bool
  eqT : (τ : Ty) → List τ.den → List τ.den → Bool
  mn2 : Int → Int → Int
  mx2 : Int → Int → Int
  quI : Int → Int → Int
  reI : Int → Int → Int
  wr : IntKind → Int → Int
  bitI : BinOp → IntKind → Int → Int → Int
  shI : Bool → IntKind → Int → Int → Int
  fEq : Nat → Nat → Bool
  maxI64 : Int
  mlI : Int → Int → Int
  sbI : Int → Int → Int
  adI : Int → Int → Int
  ln_d : ∀ {α : Type} (xs : List α), ln xs = (xs.length : Int)
  gt_d : ∀ {α : Type} (xs : List α) (i : Int) (d : α), gt xs i d = xs.getD i.toNat d
  dr_d : ∀ {α : Type} (i : Int) (xs : List α), dr i xs = xs.drop i.toNat
  tk_d : ∀ {α : Type} (i : Int) (xs : List α), tk i xs = xs.take i.toNat
  ap_d : ∀ {α : Type} (xs ys : List α), ap xs ys = xs ++ ys
  stl_d : ∀ {α : Type} (xs : List α) (i : Int) (x : α), stl xs i x = xs.set i.toNat x
  eqI_d : ∀ (a b : Int), eqI a b = decide (a = b)
  ltI_d : ∀ (a b : Int), ltI a b = decide (a < b)
  leI_d : ∀ (a b : Int), leI a b = decide (a ≤ b)
  eqS_d : ∀ (a b : Bs), eqS a b = decide (a = b)
  eqT_d : ∀ (τ : Ty) (a b : List τ.den), eqT τ a b = eqTB τ a b
  mn2_d : ∀ (a b : Int), mn2 a b = if b < a then b else a
  mx2_d : ∀ (a b : Int), mx2 a b = if a < b then b else a
  quI_d : ∀ (a b : Int), quI a b = a.tdiv b
  reI_d : ∀ (a b : Int), reI a b = a.tmod b
  wr_d : ∀ (k : IntKind) (x : Int), wr k x = k.wrap x
  bitI_d : ∀ (op : BinOp) (k : IntKind) (x y : Int), bitI op k x y = bitsI op k x y
  shI_d : ∀ (left : Bool) (k : IntKind) (x y : Int), shI left k x y = shB left k x y
  fEq_d : ∀ (x y : Nat), fEq x y = Op.floatEq .f64 x y
  maxI64_d : maxI64 = 9223372036854775807
  mlI_d : ∀ (a b : Int), mlI a b = a * b
  sbI_d : ∀ (a b : Int), sbI a b = a - b
  adI_d : ∀ (a b : Int), adI a b = a + b
  rpl : {α : Type} → Int → α → List α
  rpl_d : ∀ {α : Type} (n : Int) (x : α), rpl n x = List.replicate n.toNat x
  mpB : {κ υ : Ty} → List (κ.den × υ.den) → κ.den → Bool
  mpB_d : ∀ {κ υ : Ty} (es : List (κ.den × υ.den)) (k : κ.den), mpB es k = (mapGet es k).isSome
  mpG : {κ υ : Ty} → List (κ.den × υ.den) → κ.den → υ.den → υ.den
  mpG_d : ∀ {κ υ : Ty} (es : List (κ.den × υ.den)) (k : κ.den) (d : υ.den), mpG es k d = (mapGet es k).getD d
  mpS : {κ υ : Ty} → List (κ.den × υ.den) → κ.den → υ.den → List (κ.den × υ.den)
  mpS_d : ∀ {κ υ : Ty} (es : List (κ.den × υ.den)) (k : κ.den) (x : υ.den), mpS es k x = mapSet es k x

theorem ops_ne : Nonempty Ops := ⟨{
  ln := fun xs => (xs.length : Int)
  gt := fun xs i d => xs.getD i.toNat d
  dr := fun i xs => xs.drop i.toNat
  tk := fun i xs => xs.take i.toNat
  ap := fun xs ys => xs ++ ys
  stl := fun xs i x => xs.set i.toNat x
  eqI := fun a b => decide (a = b)
  ltI := fun a b => decide (a < b)
  leI := fun a b => decide (a ≤ b)
  eqS := fun a b => decide (a = b)
  eqT := fun τ a b => eqTB τ a b
  mn2 := fun a b => if b < a then b else a
  mx2 := fun a b => if a < b then b else a
  quI := fun a b => a.tdiv b
  reI := fun a b => a.tmod b
  wr := fun k x => k.wrap x
  bitI := fun op k x y => bitsI op k x y
  shI := fun left k x y => shB left k x y
  fEq := fun x y => Op.floatEq .f64 x y
  maxI64 := 9223372036854775807
  mlI := fun a b => a * b
  sbI := fun a b => a - b
  adI := fun a b => a + b
  rpl := fun n x => List.replicate n.toNat x
  mpB := fun es k => (mapGet es k).isSome
  mpG := fun es k d => (mapGet es k).getD d
  mpS := fun es k x => mapSet es k x
  rpl_d := by intros; rfl
  mpB_d := by intros; rfl
  mpG_d := by intros; rfl
  mpS_d := by intros; rfl
  ln_d := by intros; rfl
  gt_d := by intros; rfl
  dr_d := by intros; rfl
  tk_d := by intros; rfl
  ap_d := by intros; rfl
  stl_d := by intros; rfl
  eqI_d := by intros; rfl
  ltI_d := by intros; rfl
  leI_d := by intros; rfl
  eqS_d := by intros; rfl
  eqT_d := by intros; rfl
  mn2_d := by intros; rfl
  mx2_d := by intros; rfl
  quI_d := by intros; rfl
  reI_d := by intros; rfl
  wr_d := by intros; rfl
  bitI_d := by intros; rfl
  shI_d := by intros; rfl
  fEq_d := by intros; rfl
  maxI64_d := rfl
  adI_d := by intros; rfl
  sbI_d := by intros; rfl
  mlI_d := by intros; rfl }⟩

noncomputable def ln {α : Type} (xs : List α) : Int := (Classical.choice ops_ne).ln xs
noncomputable def gt {α : Type} (xs : List α) (i : Int) (d : α) : α := (Classical.choice ops_ne).gt xs i d
noncomputable def dr {α : Type} (i : Int) (xs : List α) : List α := (Classical.choice ops_ne).dr i xs
noncomputable def tk {α : Type} (i : Int) (xs : List α) : List α := (Classical.choice ops_ne).tk i xs
noncomputable def ap {α : Type} (xs ys : List α) : List α := (Classical.choice ops_ne).ap xs ys
noncomputable def stl {α : Type} (xs : List α) (i : Int) (x : α) : List α := (Classical.choice ops_ne).stl xs i x
noncomputable def eqI (a b : Int) : Bool := (Classical.choice ops_ne).eqI a b
noncomputable def ltI (a b : Int) : Bool := (Classical.choice ops_ne).ltI a b
noncomputable def leI (a b : Int) : Bool := (Classical.choice ops_ne).leI a b
noncomputable def eqS (a b : Bs) : Bool := (Classical.choice ops_ne).eqS a b
noncomputable def eqT (τ : Ty) (a b : List τ.den) : Bool := (Classical.choice ops_ne).eqT τ a b
noncomputable def mn2 (a b : Int) : Int := (Classical.choice ops_ne).mn2 a b
noncomputable def mx2 (a b : Int) : Int := (Classical.choice ops_ne).mx2 a b
noncomputable def quI (a b : Int) : Int := (Classical.choice ops_ne).quI a b
noncomputable def reI (a b : Int) : Int := (Classical.choice ops_ne).reI a b
noncomputable def wr (k : IntKind) (x : Int) : Int := (Classical.choice ops_ne).wr k x
noncomputable def bitI (op : BinOp) (k : IntKind) (x y : Int) : Int := (Classical.choice ops_ne).bitI op k x y
noncomputable def shI (left : Bool) (k : IntKind) (x y : Int) : Int := (Classical.choice ops_ne).shI left k x y
noncomputable def fEq (x y : Nat) : Bool := (Classical.choice ops_ne).fEq x y
noncomputable def maxI64  : Int := (Classical.choice ops_ne).maxI64 
theorem ln_def {α : Type} (xs : List α) : ln xs = (xs.length : Int) := (Classical.choice ops_ne).ln_d xs
theorem gt_def {α : Type} (xs : List α) (i : Int) (d : α) : gt xs i d = xs.getD i.toNat d := (Classical.choice ops_ne).gt_d xs i d
theorem dr_def {α : Type} (i : Int) (xs : List α) : dr i xs = xs.drop i.toNat := (Classical.choice ops_ne).dr_d i xs
theorem tk_def {α : Type} (i : Int) (xs : List α) : tk i xs = xs.take i.toNat := (Classical.choice ops_ne).tk_d i xs
theorem ap_def {α : Type} (xs ys : List α) : ap xs ys = xs ++ ys := (Classical.choice ops_ne).ap_d xs ys
theorem stl_def {α : Type} (xs : List α) (i : Int) (x : α) : stl xs i x = xs.set i.toNat x := (Classical.choice ops_ne).stl_d xs i x
theorem eqI_def (a b : Int) : eqI a b = decide (a = b) := (Classical.choice ops_ne).eqI_d a b
theorem ltI_def (a b : Int) : ltI a b = decide (a < b) := (Classical.choice ops_ne).ltI_d a b
theorem leI_def (a b : Int) : leI a b = decide (a ≤ b) := (Classical.choice ops_ne).leI_d a b
theorem eqS_def (a b : Bs) : eqS a b = decide (a = b) := (Classical.choice ops_ne).eqS_d a b
theorem eqT_def (τ : Ty) (a b : List τ.den) : eqT τ a b = eqTB τ a b := (Classical.choice ops_ne).eqT_d τ a b
theorem mn2_def (a b : Int) : mn2 a b = if b < a then b else a := (Classical.choice ops_ne).mn2_d a b
theorem mx2_def (a b : Int) : mx2 a b = if a < b then b else a := (Classical.choice ops_ne).mx2_d a b
theorem quI_def (a b : Int) : quI a b = a.tdiv b := (Classical.choice ops_ne).quI_d a b
theorem reI_def (a b : Int) : reI a b = a.tmod b := (Classical.choice ops_ne).reI_d a b
theorem wr_def (k : IntKind) (x : Int) : wr k x = k.wrap x := (Classical.choice ops_ne).wr_d k x
theorem bitI_def (op : BinOp) (k : IntKind) (x y : Int) : bitI op k x y = bitsI op k x y := (Classical.choice ops_ne).bitI_d op k x y
theorem shI_def (left : Bool) (k : IntKind) (x y : Int) : shI left k x y = shB left k x y := (Classical.choice ops_ne).shI_d left k x y
theorem fEq_def (x y : Nat) : fEq x y = Op.floatEq .f64 x y := (Classical.choice ops_ne).fEq_d x y
theorem maxI64_def  : maxI64  = 9223372036854775807 := (Classical.choice ops_ne).maxI64_d 
noncomputable def adI (a b : Int) : Int := (Classical.choice ops_ne).adI a b
theorem adI_def (a b : Int) : adI a b = a + b := (Classical.choice ops_ne).adI_d a b
noncomputable def sbI (a b : Int) : Int := (Classical.choice ops_ne).sbI a b
theorem sbI_def (a b : Int) : sbI a b = a - b := (Classical.choice ops_ne).sbI_d a b
noncomputable def mlI (a b : Int) : Int := (Classical.choice ops_ne).mlI a b
theorem mlI_def (a b : Int) : mlI a b = a * b := (Classical.choice ops_ne).mlI_d a b
noncomputable def rpl {α : Type} (n : Int) (x : α) : List α := (Classical.choice ops_ne).rpl n x
theorem rpl_def {α : Type} (n : Int) (x : α) : rpl n x = List.replicate n.toNat x := (Classical.choice ops_ne).rpl_d n x
noncomputable def mpB {κ υ : Ty} (es : List (κ.den × υ.den)) (k : κ.den) : Bool := (Classical.choice ops_ne).mpB es k
theorem mpB_def {κ υ : Ty} (es : List (κ.den × υ.den)) (k : κ.den) : mpB es k = (mapGet es k).isSome := (Classical.choice ops_ne).mpB_d es k
noncomputable def mpG {κ υ : Ty} (es : List (κ.den × υ.den)) (k : κ.den) (d : υ.den) : υ.den := (Classical.choice ops_ne).mpG es k d
theorem mpG_def {κ υ : Ty} (es : List (κ.den × υ.den)) (k : κ.den) (d : υ.den) : mpG es k d = (mapGet es k).getD d := (Classical.choice ops_ne).mpG_d es k d
noncomputable def mpS {κ υ : Ty} (es : List (κ.den × υ.den)) (k : κ.den) (x : υ.den) : List (κ.den × υ.den) := (Classical.choice ops_ne).mpS es k x
theorem mpS_def {κ υ : Ty} (es : List (κ.den × υ.den)) (k : κ.den) (x : υ.den) : mpS es k x = mapSet es k x := (Classical.choice ops_ne).mpS_d es k x
/-- a side condition. -/
structure Sd (p : Unit → Prop) : Prop where
  h : p ()
structure big (n : Int) : Prop where
  h : n ≤ 4294967296

def eqB (neg x : Bool) : V := .b (if neg then !x else x)

noncomputable def binS (op : BinOp) (x y : V) : R1 :=
  match x, y with
  | .i k a, .i k' b =>
    match op with
    | .shl => .ask (fun _ => 0 ≤ b) (.ok [] (.i k (shI true k a b)))
    | .shr => .ask (fun _ => 0 ≤ b) (.ok [] (.i k (shI false k a b)))
    | op => if k = k' then
        match op with
        | .add => .ok [] (.i k (wr k (adI a b)))
        | .sub => .ok [] (.i k (wr k (sbI a b)))
        | .mul => .ok [] (.i k (wr k (mlI a b)))
        | .quo => .ask (fun _ => b ≠ 0) (.ok [] (.i k (wr k (quI a b))))
        | .rem => .ask (fun _ => b ≠ 0) (.ok [] (.i k (reI a b)))
        | .and => .ok [] (.i k (bitI .and k a b))
        | .or => .ok [] (.i k (bitI .or k a b))
        | .xor => .ok [] (.i k (bitI .xor k a b))
        | .andNot => .ok [] (.i k (bitI .andNot k a b))
        | .eql => .ok [] (.b (eqI a b))
        | .neq => .ok [] (.b (!eqI a b))
        | .lss => .ok [] (.b (ltI a b))
        | .leq => .ok [] (.b (leI a b))
        | .gtr => .ok [] (.b (ltI b a))
        | .geq => .ok [] (.b (leI b a))
        | _ => .fail
      else .fail
  | .s a, .s b =>
    match op with
    | .add => .ask (fun _ => ln (ap a b) ≤ maxI64) (.ok [] (.s (ap a b)))
    | .eql => .ok [] (.b (eqS a b))
    | .neq => .ok [] (.b (!eqS a b))
    | _ => .fail
  | .i .i64 a, .u b =>
    match op with
    | .lss => .ok [] (.b (ltI a b))
    | .leq => .ok [] (.b (leI a b))
    | .gtr => .ok [] (.b (ltI b a))
    | .geq => .ok [] (.b (leI b a))
    | _ => .fail
  | .f a, .f b =>
    match op with
    | .eql => .ok [] (.b (fEq a b))
    | .neq => .ok [] (.b (!fEq a b))
    | _ => .fail
  | _, _ => .fail

noncomputable def eqkS (k : EK) (neg : Bool) (x y : V) : R1 :=
  match k with
  | .b => match x, y with
    | .b a, .b b => .ok [] (eqB neg (a == b))
    | _, _ => .fail
  | .p => match x, y with
    | .np, .np => .ok [] (eqB neg true)
    | .pt a b, .pt a' b' => if a = a' ∧ b = b' then .ok [] (eqB neg true) else .fail
    | .pt _ _, .np | .pa _ _ _ _ _ _, .np | .pr _ _ _ _, .np | .pi _, .np => .ok [] (eqB neg false)
    | .np, .pt _ _ | .np, .pa _ _ _ _ _ _ | .np, .pr _ _ _ _ | .np, .pi _ => .ok [] (eqB neg false)
    | _, _ => .fail
  | .sl => match x, y with
    | .ns, .ns => .ok [] (eqB neg true)
    | .sl _ xs, .ns => .any fun b => (b != neg) = true → xs = []
    | _, _ => .fail
  | .if_ => match x, y with
    | .ni, .ni => .ok [] (eqB neg true)
    | .ifc _ _, .ni | .ifa _ _, .ni => .ok [] (eqB neg false)
    | _, _ => .fail
  | .m => match x, y with
    | .nm, .nm => .ok [] (eqB neg true)
    | .mp _, .nm => .ok [] (eqB neg false)
    | _, _ => .fail

def shOk : List V → List CK → Bool
  | [], [] => true
  | .b _ :: cs, .b :: r => shOk cs r
  | .i k _ :: cs, .i k' :: r => decide (k = k') && shOk cs r
  | .s _ :: cs, .s :: r => shOk cs r
  | .ar (.int k) n _ :: cs, .ar k' n' :: r => decide (k = k') && decide (n = n') && shOk cs r
  | _, _ => false

noncomputable def eqCell : V → V → Option Bool
  | .i k a, .i k' b => if k = k' then some (eqI a b) else none
  | .b a, .b b => some (a == b)
  | .s a, .s b => some (eqS a b)
  | .ar (.int k) n a, .ar (.int k') n' b => if k = k' ∧ n = n' then some (eqT (.int k) a b) else none
  | _, _ => none

noncomputable def eqCells : List V → List V → Option Bool
  | [], [] => some true
  | [a], [b] => eqCell a b
  | a :: az, b :: bs => match eqCell a b, eqCells az bs with
    | some x, some y => some (x && y)
    | _, _ => none
  | _, _ => none

/-- A slice's elements: what is looked at, what is to be shown, they. -/
noncomputable def elems (s : St) (τ : Ty) : V → Option (List Nat × (Unit → Prop) × List τ.den)
  | .ns => some ([], fun _ => True, [])
  | .sl τ' xs => if h : τ' = τ then some ([], fun _ => True, h ▸ xs) else none
  | .ow id τ' off n => if τ' = τ then match lk s.h id with
      | some (.row τ'' xs) => if h : τ'' = τ then some ([id], fun _ => off + n ≤ ln xs, h ▸ (tk n (dr off xs))) else none
      | _ => none
    else none
  | _ => none

/-- What is appended. -/
noncomputable def appended (s : St) (τ : Ty) : V → Option (List Nat × (Unit → Prop) × List τ.den)
  | .s t => if h : τ = .int .u8 then some ([], fun _ => True, h ▸ t) else none
  | v => elems s τ v

/-- So many of a slice's first elements: what is looked at, what is to be shown, how many there are, they. -/
noncomputable def elemsN (s : St) (τ : Ty) : V → Option (List Nat × (Int → Unit → Prop) × Int × (Int → List τ.den))
  | .s t => if h : τ = .int .u8 then some ([], fun _ _ => True, ln t, fun k => h ▸ tk k t) else none
  | .ns => some ([], fun _ _ => True, 0, fun _ => [])
  | .sl τ' xs => if h : τ' = τ then some ([], fun _ _ => True, ln xs, fun k => h ▸ tk k xs) else none
  | .ow id τ' off n => if τ' = τ then match lk s.h id with
      | some (.row τ'' xs) => if h : τ'' = τ then some ([id], fun k _ => off + k ≤ ln xs, n, fun k => h ▸ (tk k (dr off xs))) else none
      | some (.rowc τ'' xs _) => if h : τ'' = τ then some ([id], fun k _ => off + k ≤ ln xs, n, fun k => h ▸ (tk k (dr off xs))) else none
      | _ => none
    else none
  | _ => none

/-- an element of a map as a value, and back. -/
def elV (υ : Ty) (x : υ.den) : Option V := match υ.agg with
  | true => some (.agg (enc υ x))
  | false => match enc υ x with
    | [c] => some c
    | _ => none
def elOf (υ : Ty) (v : V) : Option υ.den := match υ.agg with
  | true => match v with
    | .agg cs => dec υ cs
    | _ => none
  | false => match v with
    | .agg _ | .tup _ | .ar _ _ _ | .junk => none
    | v => dec υ [v]

def isOne : V → Bool
  | .junk | .agg _ | .tup _ | .ar _ _ _ => false
  | _ => true

def argOk : V → Bool
  | .tup _ | .ar _ _ _ => false
  | _ => true

def setRow (id : Nat) (o : XObj) : List (Nat × XObj) := [(id, o)]

noncomputable def owner (s : St) (dst : Option Nat) (o : XOp) : R1 :=
  match o with
  | .mv x => .ok [] (s.ev x)
  | .pick c a b => match s.ev c with
    | .b t => .ok [] (if t then s.ev a else s.ev b)
    | _ => .fail
  | .new cs => match dst with
    | some d => .upd [] [] [(nid d, .cells cs)] (.pt (nid d) 0)
    | none => .fail
  | .box x => match dst, vcells (s.ev x) with
    | some d, some cs => .upd [] [] [(nid d, .cells cs)] (.pt (nid d) 0)
    | _, _ => .fail
  | .ld a size agg => match s.ev a with
    | .pt id off => match lk s.h id with
      | some (.cells cs) => match (dropF cs off).bind (takeF · size) with
        | some ds => match ofCells agg ds with
          | some v => .ok [id] v
          | none => .fail
        | none => .fail
      | _ => .fail
    | .pa id off τ n ix sub => match lk s.h id with
      | some (.cells cs) => match dropF cs off with
        | some (.ar τ' n' xs :: _) => if τ = τ' ∧ n = n' then
            match (dropF (enc τ' (gt xs ix τ'.dflt)) sub).bind (takeF · size) with
            | some ds => match ofCells agg ds with
              | some v => .ok [id] v
              | none => .fail
            | none => .fail
          else .fail
        | _ => .fail
      | _ => .fail
    | .pr id τ ix sub => match lk s.h id with
      | some (.row τ' xs) => if τ = τ' then
          match (dropF (enc τ' (gt xs ix τ'.dflt)) sub).bind (takeF · size) with
          | some ds => match ofCells agg ds with
            | some v => .ask (fun _ => ix < ln xs) (.ok [id] v)
            | none => .fail
          | none => .fail
        else .fail
      | _ => .fail
    | .pi cs => match takeF cs size with
      | some ds => match ofCells agg ds with
        | some v => .ok [] v
        | none => .fail
      | none => .fail
    | _ => .fail
  | .st a x size => match s.ev a with
    | .pt id off => match lk s.h id, vcells (s.ev x) with
      | some (.cells cs), some ds =>
        if wdL ds = size then match replF cs off ds with
          | some cs' => .upd [] [id] [(id, .cells cs')] .junk
          | none => .fail
        else .fail
      | _, _ => .fail
    | .pa id off τ n ix sub => match lk s.h id, vcells (s.ev x) with
      | some (.cells cs), some ds => match dropF cs off with
        | some (.ar τ' n' xs :: _) => if τ = τ' ∧ n = n' then
            if wdL ds = size then match (replF (enc τ' (gt xs ix τ'.dflt)) sub ds).bind (dec τ') with
              | some x' => match replF cs off [.ar τ' n' (stl xs ix x')] with
                | some cs' => .upd [] [id] [(id, .cells cs')] .junk
                | none => .fail
              | none => .fail
            else .fail
          else .fail
        | _ => .fail
      | _, _ => .fail
    | .pr id τ ix sub => match lk s.h id, vcells (s.ev x) with
      | some (.row τ' xs), some ds => if τ = τ' then
          if wdL ds = size then match (replF (enc τ' (gt xs ix τ'.dflt)) sub ds).bind (dec τ') with
            | some x' => .ask (fun _ => ix < ln xs) (.upd [] [id] [(id, .row τ' (stl xs ix x'))] .junk)
            | none => .fail
          else .fail
        else .fail
      | _, _ => .fail
    | _ => .fail
  | .nchk x => match s.ev x with
    | .pt a b => .ok [] (.pt a b)
    | .pa a b c d e f => .ok [] (.pa a b c d e f)
    | .pr a b c d => .ok [] (.pr a b c d)
    | .pi cs => .ok [] (.pi cs)
    | .fn f cs => .ok [] (.fn f cs)
    | .ifa t cs => .ok [] (.ifa t cs)
    | .ifc t v => .ok [] (.ifc t v)
    | _ => .fail
  | .bin op x y => binS op (s.ev x) (s.ev y)
  | .eqs neg sh x y => match s.ev x, s.ev y with
    | .agg a, .agg b => if shOk a sh && shOk b sh then match eqCells a b with
        | some t => .ok [] (eqB neg t)
        | none => .fail
      else .fail
    | _, _ => .fail
  | .eqk k neg x y => eqkS k neg (s.ev x) (s.ev y)
  | .eqi neg ts x y => match s.ev x, s.ev y with
    | .ifc t (.i k a), .ifc u (.i k' b) => if t = u then
        if k = k' ∧ lk ts t = some k then .ok [] (.b (if neg then !eqI a b else eqI a b)) else .fail
      else .ok [] (eqB neg false)
    | .ifc t a, .ifc u b => if t = u ∨ isOne a = false ∨ isOne b = false then .fail else .ok [] (eqB neg false)
    | _, _ => .fail
  | .un op x => match op, s.ev x with
    | .not, .b t => .ok [] (.b (!t))
    | .neg, .i k n => .ok [] (.i k (wr k (sbI 0 n)))
    | .xor, .i k n => .ok [] (.i k (bitI .xor k (if k.signed then -1 else k.max) n))
    | _, _ => .fail
  | .ci k x => match s.ev x with
    | .i _ n => .ok [] (.i k (wr k n))
    | _ => .fail
  | .sid x => match s.ev x with
    | .s t => .ok [] (.s t)
    | _ => .fail
  | .s2b x => match s.ev x, dst with
    | .s t, some d => .upd [] [] [(nid d, .row (.int .u8) t)] (.ow (nid d) (.int .u8) 0 (ln t))
    | _, _ => .fail
  | .b2s x => match elems s (.int .u8) (s.ev x) with
    | some (fp, p, xs) => .ask p (.ok fp (.s xs))
    | none => .fail
  | .mkif t x => match s.ev x with
    | .agg cs => .ok [] (.ifa t cs)
    | .tup _ | .ar _ _ _ | .junk => .fail
    | v => .ok [] (.ifc t v)
  | .mkfn f caps => if (caps.map s.ev).all isOne then .ok [] (.fn f (caps.map s.ev)) else .fail
  | .sls x lo hi => match s.ev x, lo.map s.ev, hi.map s.ev with
    | .s t, none, none => .ok [] (.s t)
    | .s t, some (.i _ l), none => .ask (fun _ => 0 ≤ l ∧ l ≤ ln t) (.ok [] (.s (dr l t)))
    | .s t, none, some (.i _ h) => .ask (fun _ => 0 ≤ h ∧ h ≤ ln t) (.ok [] (.s (tk h t)))
    | .s t, some (.i _ l), some (.i _ h) => .ask (fun _ => 0 ≤ l ∧ l ≤ h ∧ h ≤ ln t) (.ok [] (.s (dr l (tk h t))))
    | _, _, _ => .fail
  | .slo τ x lo hi => match s.ev x, lo.map s.ev, hi.map s.ev with
    | .sl τ' xs, none, none => if τ' = τ then .ok [] (.sl τ' xs) else .fail
    | .sl τ' xs, some (.i _ l), none => if τ' = τ then .ask (fun _ => 0 ≤ l ∧ l ≤ ln xs) (.ok [] (.sl τ' (dr l xs))) else .fail
    | .sl τ' xs, none, some (.i _ h) => if τ' = τ then .ask (fun _ => 0 ≤ h ∧ h ≤ ln xs) (.ok [] (.sl τ' (tk h xs))) else .fail
    | .sl τ' xs, some (.i _ l), some (.i _ h) => if τ' = τ then .ask (fun _ => 0 ≤ l ∧ l ≤ h ∧ h ≤ ln xs) (.ok [] (.sl τ' (dr l (tk h xs)))) else .fail
    | .ow id τ' off n, some (.i _ l), none => if τ' = τ then .ask (fun _ => 0 ≤ l ∧ l ≤ n) (.ok [] (.ow id τ' (adI off l) (sbI n l))) else .fail
    | .ow id τ' off n, none, some (.i _ h) => if τ' = τ then .ask (fun _ => 0 ≤ h ∧ h ≤ n) (.ok [] (.ow id τ' off h)) else .fail
    | .ow id τ' off n, some (.i _ l), some (.i _ h) => if τ' = τ then .ask (fun _ => 0 ≤ l ∧ l ≤ h ∧ h ≤ n) (.ok [] (.ow id τ' (adI off l) (sbI h l))) else .fail
    | _, _, _ => .fail
  | .fa x k => match s.ev x with
    | .pt id off => .ok [] (.pt id (off + k))
    | .pa id off τ n ix sub => .ok [] (.pa id off τ n ix (sub + k))
    | .pr id τ ix sub => .ok [] (.pr id τ ix (sub + k))
    | .pi cs => match dropF cs k with
      | some ds => .ok [] (.pi ds)
      | none => .fail
    | _ => .fail
  | .fd x off size agg => match s.ev x with
    | .agg cs => match (dropF cs off).bind (takeF · size) with
      | some ds => match ofCells agg ds with
        | some v => .ok [] v
        | none => .fail
      | none => .fail
    | _ => .fail
  | .ia τ x i => match s.ev x, s.ev i with
    | .sl τ' xs, .i _ n => if τ' = τ then .ask (fun _ => 0 ≤ n ∧ n < ln xs) (.ok [] (.pi (enc τ' (gt xs n τ'.dflt)))) else .fail
    | .ow id τ' off len, .i _ n => if τ' = τ then .ask (fun _ => 0 ≤ n ∧ n < len) (.ok [] (.pr id τ' (adI off n) 0)) else .fail
    | _, _ => .fail
  | .iap n τ x i => match s.ev x, s.ev i with
    | .pt id off, .i _ j => .ask (fun _ => 0 ≤ j ∧ j < n) (.ok [] (.pa id off τ n j 0))
    | .pi (.ar τ' n' xs :: _), .i _ j => if τ = τ' ∧ n = n' then .ask (fun _ => 0 ≤ j ∧ j < n) (.ok [] (.pi (enc τ' (gt xs j τ'.dflt)))) else .fail
    | _, _ => .fail
  | .ixs x i => match s.ev x, s.ev i with
    | .s t, .i _ n => .ask (fun _ => 0 ≤ n ∧ n < ln t) (.ok [] (.i .u8 (gt t n 0)))
    | _, _ => .fail
  | .ixa n τ agg x i => match s.ev x, s.ev i with
    | .agg [.ar τ' n' xs], .i _ j => if τ = τ' ∧ n = n' then match ofCells agg (enc τ' (gt xs j τ'.dflt)) with
        | some v => .ask (fun _ => 0 ≤ j ∧ j < n) (.ok [] v)
        | none => .fail
      else .fail
    | _, _ => .fail
  | .ext x n => match s.ev x with
    | .tup vs => match vs[n]? with
      | some v => .ok [] v
      | none => .fail
    | _ => .fail
  | .bld cs parts =>
    match parts.foldl (fun acc p => acc.bind fun cs => (vcells (s.ev p.2.2)).bind fun ds => if wdL ds = p.2.1 then replF cs p.1 ds else none) (some cs) with
    | some cs' => .ok [] (.agg cs')
    | none => .fail
  | .bsl τ parts => match dst, (parts.map s.ev).mapM (fun v => (vcells v).bind (dec τ)) with
    | some d, some xs => .upd [] [] [(nid d, .row τ xs)] (.ow (nid d) τ 0 parts.length)
    | _, _ => .fail
  | .call f args => match s.ev f with
    | .fn g caps => if (args.map s.ev ++ caps).all argOk then .call g (args.map s.ev ++ caps) else .fail
    | _ => .fail
  | .len str x => match str, s.ev x with
    | true, .s t => .ok [] (.i .i64 (ln t))
    | false, .sl _ xs => .ok [] (.i .i64 (ln xs))
    | false, .ns => .ok [] (.i .i64 0)
    | false, .ow _ _ _ n => .ok [] (.i .i64 n)
    | _, _ => .fail
  | .app τ x y => match dst with
    | some d =>
      match appended s τ (s.ev y) with
      | some (fp, p, ys) => .ask p <| match s.ev x with
        | .ns => .ask (fun _ => big (ln ys)) (.upd fp [] [(nid d, .row τ ys)] (.ow (nid d) τ 0 (ln ys)))
        | .ow id τ' off n => match lk s.h id with
          | some (.row τ'' xs) => if h : τ'' = τ then
              if τ' = τ && !fp.contains id then
                let zs := ap (dr off (h ▸ xs)) ys
                .ask (fun _ => off + n = ln xs ∧ big (ln zs)) (.upd fp [id] [(nid d, .row τ zs)] (.ow (nid d) τ 0 (ln zs)))
              else if τ' = τ then
                .ask (fun _ => off + n + ln ys ≤ ln xs ∧ n + ln ys ≤ maxI64) (.upd fp [id] [(id, .row τ (ap (tk (adI off n) (h ▸ xs)) (ap ys (dr (adI (adI off n) (ln ys)) (h ▸ xs)))))] (.ow id τ off (adI n (ln ys))))
              else .fail
            else .fail
          | _ => .fail
        | _ => .fail
      | none => .fail
    | none => .fail
  | .mn x ys => match ys.map s.ev with
    | [.i k b] => match s.ev x with
      | .i k' a => if k = k' then .ok [] (.i k (mn2 a b)) else .fail
      | _ => .fail
    | _ => .fail
  | .mx x ys => match ys.map s.ev with
    | [.i k b] => match s.ev x with
      | .i k' a => if k = k' then .ok [] (.i k (mx2 a b)) else .fail
      | _ => .fail
    | _ => .fail
  | .boxi x => match vcells (s.ev x) with
    | some cs => .upd [] [] [] (.pi cs)
    | none => .fail
  | .newt T cs => match dst with
    | some d => .upd [] [] [(nid d, .tc T cs)] (.pt (nid d) 0)
    | none => .fail
  | .bla cs parts => match cs with
    | [.ar τ n xs] => match parts.foldl (fun acc p => acc.bind fun xs => ((vcells (s.ev p.2)).bind (dec τ)).map fun y => xs.set p.1 y) (some xs) with
      | some xs' => .ok [] (.agg [.ar τ n xs'])
      | none => .fail
    | _ => .fail
  | .slm τ x lo hi mx => match s.ev x, s.ev lo, s.ev hi, s.ev mx with
    | .sl τ' xs, .i _ l, .i _ h, .i _ m => if τ' = τ then .ask (fun _ => 0 ≤ l ∧ l ≤ h ∧ h ≤ m ∧ m ≤ ln xs) (.ok [] (.sl τ' (dr l (tk h xs)))) else .fail
    | .ow _ τ' _ n, .i _ l, .i _ h, .i _ m => if τ' = τ then .ask (fun _ => 0 ≤ l ∧ l ≤ h ∧ h ≤ m ∧ m ≤ n) (.ok [] .junk) else .fail
    | _, _, _, _ => .fail
  | .sla n τ x => match s.ev x with
    | .pi (.ar τ' n' xs :: _) => if τ = τ' ∧ n = n' then .ok [] (.sl τ' xs) else .fail
    | _ => .fail
  | .cap x => match s.ev x with
    | .ow id τ off n => match lk s.h id with
      | some (.row τ' xs) => .allI (fun c => off + n ≤ c) (fun c => .upd [] [id] [(id, .rowc τ' xs c)] (.u (sbI c off)))
      | some (.rowc _ _ c) => .ok [id] (.u (sbI c off))
      | _ => .fail
    | _ => .fail
  | .cpy τ x y => match s.ev x with
    | .ow id τ' off n => match elemsN s τ (s.ev y) with
      | some (fp, p, m, ys) => match lk s.h id with
        | some (.row τ'' xs) => if h : τ'' = τ then
            if τ' = τ then .ask (p (mn2 n m)) (.ask (fun _ => off ≤ ln xs ∧ 0 ≤ m) (.upd fp [id] [(id, .row τ (ap (tk off (h ▸ xs)) (ap (ys (mn2 n m)) (dr (adI off (mn2 n m)) (h ▸ xs)))))] (.i .i64 (mn2 n m)))) else .fail
          else .fail
        | some (.rowc τ'' xs c) => if h : τ'' = τ then
            if τ' = τ then .ask (p (mn2 n m)) (.ask (fun _ => off ≤ ln xs ∧ 0 ≤ m) (.upd fp [id] [(id, .rowc τ (ap (tk off (h ▸ xs)) (ap (ys (mn2 n m)) (dr (adI off (mn2 n m)) (h ▸ xs)))) c)] (.i .i64 (mn2 n m)))) else .fail
          else .fail
        | _ => .fail
      | none => .fail
    | _ => .fail
  | .clr τ d x => match s.ev x with
    | .ns => .ok [] (.tup [])
    | .ow id τ' off n => match lk s.h id with
      | some (.row τ'' xs) => if h : τ'' = τ then
          if τ' = τ then .ask (fun _ => off + n ≤ ln xs) (.upd [] [id] [(id, .row τ (ap (tk off (h ▸ xs)) (ap (rpl n d) (dr (adI off n) (h ▸ xs)))))] (.tup [])) else .fail
        else .fail
      | _ => .fail
    | _ => .fail
  | .appm τ d x k => match dst, s.ev x, s.ev k with
    | some dd, .ow id τ' off n, .i .i64 m => match lk s.h id with
      | some (.rowc τ'' xs c) => if h : τ'' = τ then
          if τ' = τ then .ask (fun _ => 0 ≤ m ∧ off + n ≤ ln xs ∧ c < off + n + m ∧ big (n + m)) (.upd [id] [] [(nid dd, .row τ (ap (tk n (dr off (h ▸ xs))) (rpl m d)))] (.ow (nid dd) τ 0 (adI n m))) else .fail
        else .fail
      | _ => .fail
    | _, _, _ => .fail
  | .mks τ d l => match dst, s.ev l with
    | some dd, .i .i64 m => .ask (fun _ => 0 ≤ m ∧ big m) (.upd [] [] [(nid dd, .row τ (rpl m d))] (.ow (nid dd) τ 0 m))
    | _, _ => .fail
  | .mkm κ υ => match dst with
    | some d => .upd [] [] [(nid d, .mp κ υ [])] (.mp (nid d))
    | none => .fail
  | .lkp κ υ d ok x i => match s.ev x, elOf κ (s.ev i) with
    | .mp id, some k => match lk s.h id with
      | some (.mp κ' υ' es) => if h : κ' = κ ∧ υ' = υ then
          match elV υ (mpG (h.1 ▸ h.2 ▸ es : List (κ.den × υ.den)) k d) with
          | some v => .ok [id] (if ok then .tup [v, .b (mpB (h.1 ▸ h.2 ▸ es : List (κ.den × υ.den)) k)] else v)
          | none => .fail
        else .fail
      | _ => .fail
    | _, _ => .fail
  | .mup κ υ m k v => match s.ev m, elOf κ (s.ev k), elOf υ (s.ev v) with
    | .mp id, some k, some y => match lk s.h id with
      | some (.mp κ' υ' es) => if h : κ' = κ ∧ υ' = υ then
          .upd [] [id] [(id, .mp κ υ (mpS (h.1 ▸ h.2 ▸ es : List (κ.den × υ.den)) k y))] .junk
        else .fail
      | _ => .fail
    | _, _, _ => .fail
  | .uid T n x => match s.ev x with
    | .np => .ok [] .np
    | .pt id 0 => match lk s.h id with
      | some (.tc T' cs) => if T' = T ∧ wdL cs = n then .ok [id] (.pt id 0) else .fail
      | _ => .fail
    | _ => .fail
  | .usd x => match s.ev x with
    | .ow id τ off n => .ask (fun _ => 0 < n) (.ok [] (.pr id τ off 0))
    | _ => .fail
  | .ust x n => match s.ev x, s.ev n with
    | .pr id (.int .u8) ix 0, .i .i64 m => match lk s.h id with
      | some (.row (.int .u8) xs) => .ask (fun _ => 0 < m ∧ ix + m ≤ ln xs) (.upd [] [id] [] (.s (tk m (dr ix xs))))
      | _ => .fail
    | _, _ => .fail
  | .pan x => match s.ev x with
    | .ifc t v => .pan (.ifc t v)
    | .ifa t v => .pan (.ifa t v)
    | _ => .fail

/-! calls -/

mutual
def V.ids : V → List Nat
  | .pt id _ | .pa id _ _ _ _ _ | .pr id _ _ _ | .ow id _ _ _ | .mp id => [id]
  | .pi cs | .fn _ cs | .ifa _ cs | .agg cs | .tup cs => idsL cs
  | .ifc _ v => v.ids
  | _ => []
def idsL : List V → List Nat
  | [] => []
  | v :: vs => v.ids ++ idsL vs
end

/-- an id's new name; what has none is lost. -/
def rnId (r : List (Nat × Nat)) (id : Nat) (f : Nat → V) : V :=
  match lk r id with
  | some j => f j
  | none => .junk

mutual
def V.rn (r : List (Nat × Nat)) : V → V
  | .pt id o => rnId r id (.pt · o)
  | .pa id o τ n ix sub => rnId r id (.pa · o τ n ix sub)
  | .pr id τ ix sub => rnId r id (.pr · τ ix sub)
  | .ow id τ o n => rnId r id (.ow · τ o n)
  | .mp id => rnId r id .mp
  | .pi cs => .pi (rnL r cs)
  | .fn f cs => .fn f (rnL r cs)
  | .ifa t cs => .ifa t (rnL r cs)
  | .agg cs => .agg (rnL r cs)
  | .tup cs => .tup (rnL r cs)
  | .ifc t v => .ifc t (v.rn r)
  | .junk => .junk
  | .b x => .b x
  | .i k x => .i k x
  | .f x => .f x
  | .u x => .u x
  | .s x => .s x
  | .np => .np
  | .ni => .ni
  | .nf => .nf
  | .ns => .ns
  | .nm => .nm
  | .sl τ xs => .sl τ xs
  | .ar τ n xs => .ar τ n xs
def rnL (r : List (Nat × Nat)) : List V → List V
  | [] => []
  | v :: vs => v.rn r :: rnL r vs
end

def XObj.rn (r : List (Nat × Nat)) : XObj → XObj
  | .cells cs => .cells (rnL r cs)
  | .tc T cs => .tc T (rnL r cs)
  | .row τ xs => .row τ xs
  | .rowc τ xs c => .rowc τ xs c
  | .mp κ υ es => .mp κ υ es

def XObj.ids : XObj → List Nat
  | .cells cs | .tc _ cs => idsL cs
  | .row _ _ | .rowc _ _ _ | .mp _ _ _ => []

/-- The ids that are reached from some, each with its number, in order. -/
def reach (h : List (Nat × XObj)) : Nat → List Nat → List (Nat × Nat) → List (Nat × Nat)
  | 0, _, r => r
  | _, [], r => r
  | k + 1, id :: todo, r => match lk r id with
    | some _ => reach h k todo r
    | none => match lk h id with
      | some o => reach h k (todo ++ o.ids) (r ++ [(id, r.length)])
      | none => reach h k todo r

def unpair (r : List (Nat × Nat)) : List (Nat × Nat) := r.map fun p => (p.2, p.1)

/-- The part of a heap, under its new names. -/
def passed (h : List (Nat × XObj)) (r : List (Nat × Nat)) : List (Nat × XObj) :=
  r.filterMap fun p => (lk h p.1).map fun o => (p.2, o.rn r)

def fresh (d : Nat) (r : List (Nat × Nat)) : List (Nat × XObj) → Nat → List (Nat × Nat)
  | [], _ => []
  | (j, _) :: rest, k => if (r.any fun p => p.2 == j) then fresh d r rest k else (j, nid d + 1 + k) :: fresh d r rest (k + 1)

def without (h : List (Nat × XObj)) (F : List Nat) : List (Nat × XObj) := h.filter fun p => !F.contains p.1

/-- no value mentions the numbers of a temporary. -/
def keyN (d : Nat) : Nat → Bool := fun id => id / 64 == d + 1

mutual
def V.scrub (N : Nat → Bool) : V → V
  | .pt id o => if N id then .junk else .pt id o
  | .pa id o τ n ix sub => if N id then .junk else .pa id o τ n ix sub
  | .pr id τ ix sub => if N id then .junk else .pr id τ ix sub
  | .ow id τ o n => if N id then .junk else .ow id τ o n
  | .mp id => if N id then .junk else .mp id
  | .pi cs => .pi (scrubL N cs)
  | .fn f cs => .fn f (scrubL N cs)
  | .ifa t cs => .ifa t (scrubL N cs)
  | .agg cs => .agg (scrubL N cs)
  | .tup cs => .tup (scrubL N cs)
  | .ifc t v => .ifc t (v.scrub N)
  | v => v
def scrubL (N : Nat → Bool) : List V → List V
  | [] => []
  | v :: vs => v.scrub N :: scrubL N vs
end

def XObj.scrub (N : Nat → Bool) : XObj → XObj
  | .cells cs => .cells (scrubL N cs)
  | .tc T cs => .tc T (scrubL N cs)
  | .row τ xs => .row τ xs
  | .rowc τ xs c => .rowc τ xs c
  | .mp κ υ es => .mp κ υ es

def St.scrub (N : Nat → Bool) (s : St) : St :=
  ⟨s.t.map fun p => (p.1, p.2.scrub N), (s.h.filter fun p => !N p.1).map fun p => (p.1, p.2.scrub N)⟩

def St.clean (N : Nat → Bool) (s : St) : Bool :=
  (s.t.all fun p => p.2.no N) && (s.h.all fun p => !N p.1 && p.2.no N)

def St.put (s : St) (dst : Option Nat) (v : V) : St :=
  match dst with
  | some d => ⟨(d, v) :: s.t.filter (fun p => p.1 != d), s.h⟩
  | none => s

def St.upd (s : St) (F : List Nat) (h : List (Nat × XObj)) : St := ⟨s.t, h ++ without s.h F⟩

inductive XRet where
  | val (v : V)
  | pan (v : V)

end GoX
/- What a call does ('Sim'), what is to be shown for operations ('XOps') and for code ('XK'). -/
set_option autoImplicit false
namespace GoX
open Go

def DenE (ρ : Nat → Place) (I : Nat → Prop) (w : World) : XRet → Ending → Prop
  | .val v, .returned x => DenV ρ I w v x
  | .pan v, .panicked ch => ∃ x, ch = [{ v := x, recovered := false }] ∧ DenV1 ρ I w v x
  | _, _ => False

def lateN : Nat → Bool := fun id => decide (32 ≤ id)

/-- A call of a function, by its body or by what stands in for it. -/
def CallR (P : Program) (f : FuncId) (xs : Array Value) (w : World) (R : Ending → World → Prop) : Prop :=
  ((callFunc f xs).run P w = .ok (.enter f xs) w ∧ Calls P f xs w R) ∨ (∃ v w', (callFunc f xs).run P w = .ok (.value v) w' ∧ R (.returned v) w')

/-- A call of a function, with these arguments over this heap, ends so, over that heap; of what was given it changes no more than 'wr'. -/
structure Sim (P : Program) (f : FuncId) (args : List V) (h : List (Nat × XObj)) (wr : List Nat) (r : XRet) (h' : List (Nat × XObj)) : Prop where
  go : ∀ (ρ : Nat → Place) (I : Nat → Prop) (w : World) (xs : List Value), RH ρ I w (lk h) → DenT ρ I w args xs →
    CallR P f xs.toArray w fun e w' => ∃ ρ' I', RH ρ' I' w' (lk h') ∧ Loc ρ I w (lk h) ρ' I' w' (lk h') lateN ∧ DenE ρ' I' w' r e
  same : ∀ id, id < 32 → wr.contains id = false → lk h' id = lk h id

def XOp.allocs : XOp → Bool
  | .new _ | .box _ | .bsl _ _ | .s2b _ | .app _ _ _ | .call _ _ | .newt _ _ | .appm _ _ _ _ | .mks _ _ _ | .mkm _ _ => true
  | _ => false

def XOp.reads : XOp → List XO
  | .mv x | .box x | .ld x _ _ | .nchk x | .un _ x | .ci _ x | .sid x | .s2b x | .b2s x | .mkif _ x | .fa x _ | .fd x _ _ _ | .ext x _ | .len _ x | .pan x => [x]
  | .pick c a b => [c, a, b]
  | .new _ | .newt _ _ | .mkm _ _ => []
  | .boxi x | .sla _ _ x | .cap x | .clr _ _ x | .mks _ _ x | .uid _ _ x | .usd x => [x]
  | .bla _ ps => ps.map (·.2)
  | .slm _ a b c d => [a, b, c, d]
  | .cpy _ a b | .appm _ _ a b | .lkp _ _ _ _ a b | .ust a b => [a, b]
  | .mup _ _ a b c => [a, b, c]
  | .bld _ ps => ps.map (·.2.2)
  | .bsl _ l => l
  | .st a x _ | .bin _ a x | .eqs _ _ a x | .eqk _ _ a x | .eqi _ _ a x | .ia _ a x | .iap _ _ a x | .ixs a x | .ixa _ _ _ a x | .app _ a x => [a, x]
  | .mkfn _ l => l
  | .sls x a b | .slo _ x a b => x :: (a.toList ++ b.toList)
  | .call f l => f :: l
  | .mn x l | .mx x l => x :: l

def XOper.seen (o : XOper) : List Nat :=
  (o.op.reads.filterMap fun | .t n => some n | .v _ => none) ++ (match o.guard with | some (t, _) => [t] | none => [])

/-- What an operation of a region that draws did: what it looked at, what it wrote, its key, what it left. -/
structure Lg where
  o : XOper
  rd : List Nat
  wrt : List Nat
  key : Option Nat
  out : List V

def disj (a b : List Nat) : Bool := a.all fun x => !b.contains x

/-- may these come up in either order? (x stands ahead of y) -/
def okPair (x y : Lg) : Bool :=
  disj x.wrt (y.rd ++ y.wrt) && disj y.wrt x.rd &&
  (match x.o.dst with | some d => !y.o.seen.contains d && y.o.dst != some d | none => true) &&
  (match y.o.dst with | some d => !x.o.seen.contains d | none => true) &&
  (match x.key with | some d => noL (keyN d) y.out | none => true)

def okPairs : List (Nat × Lg) → Bool
  | [] => true
  | (i, x) :: r => (r.all fun p => p.2.o.bef.contains i || okPair x p.2) && okPairs r

def XIf (t : Bool) (p q : Unit → Prop) : Prop :=
  match t with
  | true => p ()
  | false => q ()

/-- the numbers and the values of what is left. -/
def kidsOf (h : List (Nat × XObj)) : List V := h.flatMap fun p => .mp p.1 :: match p.2 with | .cells cs | .tc _ cs => cs | .row _ _ | .rowc _ _ _ | .mp _ _ _ => []

/-- What is to be shown for a step's answer. -/
def XR (any : Prop) (ok : List Nat → V → Prop) (upd : List Nat → List Nat → List (Nat × XObj) → V → Prop) (call : Nat → List V → Prop) (pan : V → Prop) : R1 → Prop
  | .ok fp v => ok fp v
  | .ask p r => Sd p ∧ XR any ok upd call pan r
  | .any p => any ∧ ∀ b, p b → ok [] (.b b)
  | .allI p f => any ∧ ∀ c, p c → XR any ok upd call pan (f c)
  | .upd rd F h v => upd rd F h v
  | .call f l => call f l
  | .pan v => pan v
  | .fail => False

/-- what comes back from a call, under the caller's names: what was changed, and what is new. -/
def backG (K : Nat → Bool) (back : List (Nat × Nat)) (hr : List (Nat × XObj)) : List (Nat × XObj) :=
  hr.filterMap fun p => if K p.1 then (lk back p.1).map fun j => (j, p.2.rn back) else none
def backH (wr : List Nat) (back : List (Nat × Nat)) (hr : List (Nat × XObj)) : List (Nat × XObj) := backG (fun j => wr.contains j || lateN j) back hr
def backM (d : Nat) (r : List (Nat × Nat)) (hr : List (Nat × XObj)) : List (Nat × Nat) := unpair r ++ fresh d r hr 0
def backF (wr : List Nat) (r : List (Nat × Nat)) : List Nat := (r.filter fun p => wr.contains p.2).map (·.1)

/-- all that is mentioned is given. -/
def closed (h : List (Nat × XObj)) (r : List (Nat × Nat)) (ids : List Nat) : Bool :=
  ids.all (fun i => (lk r i).isSome) && r.all (fun p => match lk h p.1 with | some o => o.ids.all fun i => (lk r i).isSome | none => false) && r.all (fun p => decide (p.2 < 32))

def XCall (P : Program) (f : Nat) (args : List V) (hp : List (Nat × XObj)) (k : List Nat → XRet → List (Nat × XObj) → Prop) : Prop :=
  ∃ wr res hr, Sim P f args hp wr res hr ∧ k wr res hr

def lgAdd (draw : Bool) (log : List (Nat × Lg)) (n : Nat) (o : XOper) (rd wrt : List Nat) (key : Option Nat) (out : List V) : List (Nat × Lg) :=
  match draw with
  | true => log ++ [(n, ⟨o, rd, wrt, key, out⟩)]
  | false => []

def keyOf (o : XOper) : Nat := o.dst.getD 100000
def keyIf (o : XOper) : Option Nat := if o.op.allocs then some (keyOf o) else none

/-- ahead of an operation that makes something: nothing has its numbers. -/
def XPre (draw : Bool) (log : List (Nat × Lg)) (o : XOper) (s : St) (k : St → Prop) : Prop :=
  match o.op.allocs with
  | false => k s
  | true => match draw with
    | false => k (s.scrub (keyN (keyOf o)))
    | true => XIf (log.all fun p => noL (keyN (keyOf o)) p.2.out) (fun _ => k s) (fun _ => False)

/-- behind a call's return. -/
def XBack (draw : Bool) (pn : V → St → Prop) (o : XOper) (n : Nat) (log : List (Nat × Lg)) (s : St) (r : List (Nat × Nat)) (kont : List (Nat × Lg) → St → Prop)
    (res : XRet) (hr : List (Nat × XObj)) (back : List (Nat × Nat)) (F : List Nat) (h : List (Nat × XObj)) : Prop :=
  match res with
  | .val v => XIf (decide (hr.length ≤ 62)) (fun _ => kont (lgAdd draw log n o (r.map (·.1)) (F ++ h.map (·.1)) (some (keyOf o)) (v.rn back :: kidsOf h)) ((s.upd F h).put o.dst (v.rn back))) (fun _ => False)
  | .pan v => decide (hr.length ≤ 62) = true ∧ draw = false ∧ pn (v.rn back) (s.upd F h)

/-- one operation, where it runs. -/
def XOp1 (P : Program) (draw : Bool) (pn : V → St → Prop) (o : XOper) (n : Nat) (log : List (Nat × Lg)) (kont : List (Nat × Lg) → St → Prop) (s : St) : Prop :=
  XR (draw = false)
    (fun fp v => kont (lgAdd draw log n o fp [] (keyIf o) [v]) (s.put o.dst v))
    (fun rd F h v => kont (lgAdd draw log n o rd (F ++ h.map (·.1)) (keyIf o) (v :: kidsOf h)) ((s.upd F h).put o.dst v))
    (fun f l => (fun r => XIf (closed s.h r (idsL l)) (fun _ => XCall P f (rnL r l) (passed s.h r)
      (fun wr res hr => (fun back => XBack draw pn o n log s r kont res hr back (backF wr r) (backH wr back hr)) (backM (keyOf o) r hr))) (fun _ => False)) (reach s.h 300 (idsL l) []))
    (fun v => draw = false ∧ pn v s)
    (owner s o.dst o.op)

/-- does what a guard looks at keep an operation from running? -/
def noGo (v : V) (want : Bool) : Prop :=
  match v with
  | .b x => (x == want) = false
  | .tup [] => True
  | _ => False

def XOps (P : Program) (draw : Bool) (pn : V → St → Prop) (K : St → List (Nat × Lg) → Prop) : List XOper → Nat → List (Nat × Lg) → St → Prop
  | [], _, log, s => K s log
  | o :: rest, n, log, s =>
    match o.guard with
    | none => XPre draw log o s (XOp1 P draw pn o n log (fun log s => XOps P draw pn K rest (n + 1) log s))
    | some (t, want) => match s.get t with
      | .b x => XIf (x == want) (fun _ => XPre draw log o s (XOp1 P draw pn o n log (fun log s => XOps P draw pn K rest (n + 1) log s)))
          fun _ => XOps P draw pn K rest (n + 1) (lgAdd draw log n o [] [] none []) (s.put o.dst (.tup []))
      | .tup [] => XOps P draw pn K rest (n + 1) (lgAdd draw log n o [] [] none []) (s.put o.dst (.tup []))
      | _ => False

inductive KI where
  | c (x : XC)
  | blk (id : Nat)

inductive XE where
  | norm
  | exit (id : Nat)
  | ret
  | pan (v : V)

def unw (id : Nat) : List KI → Option (List KI)
  | [] => none
  | .c _ :: k => unw id k
  | .blk j :: k => if j = id then some k else unw id k

/-- the numbers that a region lays anew. -/
def keysOf (l : List XOper) : List Nat := l.filterMap fun o => if o.op.allocs then some (keyOf o) else none

/-- the temporaries that a region writes are the function's. -/
def inB (n : Nat) (l : List XOper) : Bool := l.all fun o => match o.dst with | some d => decide (d < n) | none => true

/-! the meaning -/

def wpC (S : Setting) (c : XC) (Q : Exit → Act → World → Prop) (a : Act) (w : World) : Prop :=
  ∀ c', comp S c' = some c → c'.wp S.P Q a w

mutual
def wpK (S : Setting) (Q : Exit → Act → World → Prop) : List KI → Act → World → Prop
  | [], a, w => Q .normal a w
  | .c c :: k, a, w => wpC S c (fun e a w => match e with
    | .normal => wpK S Q k a w
    | e => unwQ S Q k e a w) a w
  | .blk _ :: k, a, w => wpK S Q k a w
def unwQ (S : Setting) (Q : Exit → Act → World → Prop) : List KI → Exit → Act → World → Prop
  | [], e, a, w => Q e a w
  | .c _ :: k, e, a, w => unwQ S Q k e a w
  | .blk id :: k, e, a, w => match e with
    | .exit id' => if id' = id then wpK S Q k a w else unwQ S Q k (.exit id') a w
    | e => unwQ S Q k e a w
end

/-- What a function was called with. -/
structure Ent where
  ρ : Nat → Place
  I : Nat → Prop
  w : World
  h : Hf
  dfs : List Deferred

/-- a state's meaning, in a function that was called so. -/
structure RS (E : Ent) (n : Nat) (ρ : Nat → Place) (I : Nat → Prop) (s : St) (a : Act) (w : World) : Prop where
  heap : RH ρ I w (lk s.h)
  size : a.tmps.size = n
  nodef : a.defers = E.dfs
  tmps : ∀ t, DenV ρ I w (s.get t) (a.tmps.getD t undef)
  loc : Loc E.ρ E.I E.w E.h ρ I w (lk s.h) lateN

/-- A post of states as one of the machine's. -/
def toQ (E : Ent) (n : Nat) (Q : XE → St → Prop) (e : Exit) (a : Act) (w : World) : Prop :=
  ∃ ρ I s, match e with
    | .normal => RS E n ρ I s a w ∧ Q .norm s
    | .exit id => RS E n ρ I s a w ∧ Q (.exit id) s
    | .ret => RS E n ρ I s a w ∧ Q .ret s
    | .panic ch => RS E n ρ I s a w ∧ ∃ v x, ch = [{ v := x, recovered := false }] ∧ DenV1 ρ I w v x ∧ Q (.pan v) s
    | _ => False

structure VK (S : Setting) (n : Nat) (Q : XE → St → Prop) (k : List KI) (s : St) : Prop where
  go : ∀ (E : Ent) ρ I a w, RS E n ρ I s a w → wpK S (toQ E n Q) k a w

def XK (S : Setting) (n : Nat) (Q : XE → St → Prop) : Nat → List KI → St → Prop
  | 0, _, _ => False
  | _ + 1, [], s => Q .norm s
  | m + 1, .blk _ :: k, s => XK S n Q m k s
  | m + 1, .c .skip :: k, s => XK S n Q m k s
  | m + 1, .c (.seq a b) :: k, s => XK S n Q m (.c a :: .c b :: k) s
  | m + 1, .c (.ops draw l) :: k, s =>
    XIf (inB n l) (fun _ => XOps S.P draw (fun v s => Q (.pan v) s) (fun s log => XIf (draw && !okPairs log) (fun _ => False) (fun _ => XK S n Q m k s)) l 0 []
      (match draw with | true => s.scrub (fun id => (keysOf l).any fun d => keyN d id) | false => s)) (fun _ => False)
  | m + 1, .c (.cond c a b) :: k, s => match s.ev c with
    | .b t => XIf t (fun _ => XK S n Q m (.c a :: k) s) (fun _ => XK S n Q m (.c b :: k) s)
    | _ => False
  | m + 1, .c (.block id c) :: k, s => XK S n Q m (.c c :: .blk id :: k) s
  | m + 1, .c (.exit id) :: k, s => match unw id k with
    | some k' => XK S n Q m k' s
    | none => Q (.exit id) s
  | _ + 1, .c .ret :: _, s => Q .ret s
  | _ + 1, .c .bad :: _, _ => False
  | _ + 1, .c (.loop c) :: k, s => VK S n Q (.c (.loop c) :: k) s

end GoX
/- Laws of cells: where an abstract row of cells says of a concrete one, parts of the one say of parts of the other; loads and stores. -/
set_option autoImplicit false
namespace GoX
open Go

theorem wdL_append (a b : List V) : wdL (a ++ b) = wdL a + wdL b := by
  induction a with
  | nil => simp [wdL]
  | cons x a ih => simp only [List.cons_append, wdL, ih]; omega

theorem wdL_enc (τ : Ty) (x : τ.den) : wdL (enc τ x) = τ.size := by
  cases τ <;> simp [enc, wdL, wd, Ty.size]

theorem wdL_flat (τ : Ty) (xs : List τ.den) : wdL (xs.flatMap (enc τ)) = xs.length * τ.size := by
  induction xs with
  | nil => simp [wdL]
  | cons x xs ih => rw [List.flatMap_cons, wdL_append, wdL_enc, ih, List.length_cons, Nat.succ_mul]; omega

section
variable {ρ : Nat → Place} {I : Nat → Prop} {w : World}

theorem DenL.length {cs : List V} {vs : List Value} (h : DenL ρ I w cs vs) : vs.length = wdL cs := by
  induction h with
  | ar τ xs ws h1 h2 ih1 ih => rw [List.length_append, ih1, ih, wdL_flat]; simp [wdL, wd]
  | nil => rfl
  | _ => rename_i ih; simp only [List.length_cons, wdL, wd, ih]; omega

theorem DenL.cons_one {c : V} {cs : List V} {vs : List Value} (h : DenL ρ I w (c :: cs) vs) : ∃ us ws, vs = us ++ ws ∧ us.length = wd c ∧ DenL ρ I w [c] us ∧ DenL ρ I w cs ws := by
  cases h with
  | junk x h1 h => exact ⟨[x], _, rfl, rfl, .junk x h1 .nil, h⟩
  | b x h => exact ⟨[_], _, rfl, rfl, .b x .nil, h⟩
  | i k x hr h => exact ⟨[_], _, rfl, rfl, .i k x hr .nil, h⟩
  | f x h => exact ⟨[_], _, rfl, rfl, .f x .nil, h⟩
  | u x h => exact ⟨[_], _, rfl, rfl, .u x .nil, h⟩
  | s x h1 h => exact ⟨[_], _, rfl, rfl, .s x h1 .nil, h⟩
  | np h => exact ⟨[_], _, rfl, rfl, .np .nil, h⟩
  | ni h => exact ⟨[_], _, rfl, rfl, .ni .nil, h⟩
  | nf h => exact ⟨[_], _, rfl, rfl, .nf .nil, h⟩
  | ns h => exact ⟨[_], _, rfl, rfl, .ns .nil, h⟩
  | nm h => exact ⟨[_], _, rfl, rfl, .nm .nil, h⟩
  | pt id off h => exact ⟨[_], _, rfl, rfl, .pt id off .nil, h⟩
  | pa id off τ n ix sub h0 h1 h => exact ⟨[_], _, rfl, rfl, .pa id off τ n ix sub h0 h1 .nil, h⟩
  | pr id τ ix sub h0 h => exact ⟨[_], _, rfl, rfl, .pr id τ ix sub h0 .nil, h⟩
  | pi ps ws blk off hb h1 hc h => exact ⟨[_], _, rfl, rfl, .pi ps ws blk off hb h1 hc .nil, h⟩
  | sl0 τ a cap h => exact ⟨[_], _, rfl, rfl, .sl0 τ a cap .nil, h⟩
  | sl τ xs blk off cap g hb hl ho h1 hc h => exact ⟨[_], _, rfl, rfl, .sl τ xs blk off cap g hb hl ho h1 hc .nil, h⟩
  | ow id τ off len a h1 h2 h3 h5 h4 h => exact ⟨[_], _, rfl, rfl, .ow id τ off len a h1 h2 h3 h5 h4 .nil, h⟩
  | ar τ xs ws h1 h => exact ⟨ws, _, rfl, by rw [h1.length, wdL_flat]; rfl, by simpa using DenL.ar τ xs ws h1 .nil, h⟩
  | fn f caps ws h1 h => exact ⟨[_], _, rfl, rfl, .fn f caps ws h1 .nil, h⟩
  | ifa t ps ws h1 h => exact ⟨[_], _, rfl, rfl, .ifa t ps ws h1 .nil, h⟩
  | mp id h => exact ⟨[_], _, rfl, rfl, .mp id .nil, h⟩
  | ifc t t' v x h0 h1 h => exact ⟨[_], _, rfl, rfl, .ifc t t' v x h0 h1 .nil, h⟩

theorem DenL.cons_join {c : V} {cs : List V} {us ws : List Value} (h1 : DenL ρ I w [c] us) (h : DenL ρ I w cs ws) : DenL ρ I w (c :: cs) (us ++ ws) := by
  cases h1 with
  | junk x h1 h' => cases h'; exact .junk x h1 h
  | b x h' => cases h'; exact .b x h
  | i k x hr h' => cases h'; exact .i k x hr h
  | f x h' => cases h'; exact .f x h
  | u x h' => cases h'; exact .u x h
  | s x h1 h' => cases h'; exact .s x h1 h
  | np h' => cases h'; exact .np h
  | ni h' => cases h'; exact .ni h
  | nf h' => cases h'; exact .nf h
  | ns h' => cases h'; exact .ns h
  | nm h' => cases h'; exact .nm h
  | pt id off h' => cases h'; exact .pt id off h
  | pa id off τ n ix sub h0 h1 h' => cases h'; exact .pa id off τ n ix sub h0 h1 h
  | pr id τ ix sub h0 h' => cases h'; exact .pr id τ ix sub h0 h
  | pi ps ws blk off hb h1 hc h' => cases h'; exact .pi ps ws blk off hb h1 hc h
  | sl0 τ a cap h' => cases h'; exact .sl0 τ a cap h
  | sl τ xs blk off cap g hb hl ho h1 hc h' => cases h'; exact .sl τ xs blk off cap g hb hl ho h1 hc h
  | ow id τ off len a h1 h2 h3 h5 h4 h' => cases h'; exact .ow id τ off len a h1 h2 h3 h5 h4 h
  | ar τ xs ws h1 h' => cases h'; simpa using DenL.ar τ xs ws h1 h
  | fn f caps ws h1 h' => cases h'; exact .fn f caps ws h1 h
  | ifa t ps ws h1 h' => cases h'; exact .ifa t ps ws h1 h
  | mp id h' => cases h'; exact .mp id h
  | ifc t t' v x h0 h1 h' => cases h'; exact .ifc t t' v x h0 h1 h

theorem DenL.append {a b : List V} {us ws : List Value} (h1 : DenL ρ I w a us) (h2 : DenL ρ I w b ws) : DenL ρ I w (a ++ b) (us ++ ws) := by
  induction a generalizing us with
  | nil => cases h1; simpa using h2
  | cons c a ih =>
    obtain ⟨u1, u2, rfl, _, hc, hr⟩ := h1.cons_one
    rw [List.cons_append, List.append_assoc]
    exact hc.cons_join (ih hr)

theorem DenL.split {a b : List V} {vs : List Value} (h : DenL ρ I w (a ++ b) vs) : ∃ us ws, vs = us ++ ws ∧ us.length = wdL a ∧ DenL ρ I w a us ∧ DenL ρ I w b ws := by
  induction a generalizing vs with
  | nil => exact ⟨[], vs, rfl, rfl, .nil, by simpa using h⟩
  | cons c a ih =>
    obtain ⟨u1, u2, rfl, hl, hc, hr⟩ := DenL.cons_one (by simpa using h)
    obtain ⟨u3, u4, rfl, hl', ha, hb⟩ := ih hr
    exact ⟨u1 ++ u3, u4, by simp, by simp [wdL, hl, hl'], hc.cons_join ha, hb⟩

theorem dropF_ok {cs ds : List V} {n : Nat} {vs : List Value} (hd : dropF cs n = some ds) (h : DenL ρ I w cs vs) : DenL ρ I w ds (vs.drop n) := by
  induction cs generalizing n vs with
  | nil => cases n with
    | zero => simp [dropF] at hd; subst hd; simpa using h
    | succ n => simp [dropF] at hd
  | cons c cs ih => cases n with
    | zero => simp [dropF] at hd; subst hd; simpa using h
    | succ n =>
      simp only [dropF] at hd
      split at hd
      · obtain ⟨u1, u2, rfl, hl, hc, hr⟩ := h.cons_one
        have := ih hd hr
        rwa [List.drop_append, hl, List.drop_eq_nil_of_le (by omega), List.nil_append]
      · cases hd

theorem takeF_ok {cs ds : List V} {n : Nat} {vs : List Value} (hd : takeF cs n = some ds) (h : DenL ρ I w cs vs) : DenL ρ I w ds (vs.take n) := by
  induction cs generalizing n vs ds with
  | nil => cases n with
    | zero => simp [takeF] at hd; subst hd; simpa using DenL.nil
    | succ n => simp [takeF] at hd
  | cons c cs ih => cases n with
    | zero => simp [takeF] at hd; subst hd; simpa using DenL.nil
    | succ n =>
      simp only [takeF] at hd
      split at hd
      · simp only [Option.map_eq_some_iff] at hd
        obtain ⟨es, he, rfl⟩ := hd
        obtain ⟨u1, u2, rfl, hl, hc, hr⟩ := h.cons_one
        rw [List.take_append, hl, List.take_of_length_le (by omega)]
        exact hc.cons_join (ih he hr)
      · cases hd

theorem replF_ok {cs ds es : List V} {n : Nat} {vs us : List Value} (hd : replF cs n ds = some es) (h : DenL ρ I w cs vs) (h2 : DenL ρ I w ds us) :
    DenL ρ I w es (vs.take n ++ us ++ vs.drop (n + us.length)) := by
  induction cs generalizing n vs es with
  | nil => cases n with
    | zero =>
      simp only [replF, Option.map_eq_some_iff] at hd
      obtain ⟨fs, hf, rfl⟩ := hd
      have := dropF_ok hf h
      rw [← h2.length] at this
      simpa using h2.append this
    | succ n => simp [replF] at hd
  | cons c cs ih => cases n with
    | zero =>
      simp only [replF, Option.map_eq_some_iff] at hd
      obtain ⟨fs, hf, rfl⟩ := hd
      have := dropF_ok hf h
      rw [← h2.length] at this
      simpa using h2.append this
    | succ n =>
      simp only [replF] at hd
      split at hd
      · simp only [Option.map_eq_some_iff] at hd
        obtain ⟨fs, hf, rfl⟩ := hd
        obtain ⟨u1, u2, rfl, hl, hc, hr⟩ := h.cons_one
        have := hc.cons_join (ih hf hr)
        rw [List.take_append, hl, List.take_of_length_le (by omega), List.drop_append, List.drop_eq_nil_of_le (by omega), List.nil_append]
        simpa [List.append_assoc, hl, show n + 1 + us.length - wd c = n + 1 - wd c + us.length from by omega] using this
      · cases hd

theorem ofCells_ok {agg : Bool} {cs : List V} {v : V} {vs : List Value} (h : ofCells agg cs = some v) (hd : DenL ρ I w cs vs) :
    (agg = true → DenV ρ I w v (.agg vs.toArray)) ∧ (agg = false → ∃ x, vs = [x] ∧ DenV ρ I w v x) := by
  unfold ofCells at h
  cases agg with
  | true => simp at h; subst h; exact ⟨fun _ => ⟨vs, rfl, hd⟩, (fun h => by cases h)⟩
  | false =>
    refine ⟨(fun h => by cases h), fun _ => ?_⟩
    simp only [Bool.false_eq_true, if_false] at h
    split at h
    · cases h
    · cases h
    · cases h
    · rename_i c h1 h2 h3
      injection h with h; subst h
      obtain ⟨us, ws, rfl, hl, hc, hn⟩ := hd.cons_one
      cases hn
      have hw : wd c = 1 := by
        cases c <;> first | rfl | (exact absurd rfl (h3 _ _ _))
      rw [hw] at hl
      match us, hl with
      | [x], _ =>
        refine ⟨x, rfl, ?_⟩
        cases c <;> first | (exact absurd rfl (h1 _)) | (exact absurd rfl (h2 _)) | trivial | exact hc
    · cases h

theorem vcells_ok {v : V} {x : Value} {cs : List V} (hv : vcells v = some cs) (h : DenV ρ I w v x) : DenL ρ I w cs x.cells.toList := by
  cases v <;> simp only [vcells, Option.some.injEq, reduceCtorEq] at hv <;> subst hv <;> first
    | (obtain ⟨vs, rfl, h⟩ := h; simpa [Value.cells] using h)
    | (have h' : DenL ρ I w [_] [x] := h
       have hx : x.cells.toList = [x] := by cases h' <;> rfl
       rw [hx]; exact h')

end

section
variable {ρ : Nat → Place} {I : Nat → Prop} {w : World}
theorem DenL.one {cs : List V} {vs : List Value} (h : DenL ρ I w cs vs) : ∀ v ∈ vs, oneC v = true := by
  induction h with
  | nil => intro v hv; cases hv
  | junk x h1 _ ih => intro v hv; cases hv with | head => exact h1 | tail _ hv => exact ih v hv
  | ar τ xs ws _ _ ih1 ih => intro v hv; rcases List.mem_append.1 hv with h | h; exact ih1 v h; exact ih v h
  | _ => rename_i ih; intro v hv; cases hv with | head => rfl | tail _ hv => exact ih v hv
end

/-! memory -/

theorem addr_add (b o n : Nat) : (⟨b, o, none⟩ : Addr).add n = ⟨b, o + n, none⟩ := by
  unfold Addr.add; split <;> simp_all

theorem cell?_of {w : World} {b o : Nat} {vs : List Value} {T : TypeId} {fr : Nat × Nat} (h : w.heap[b]? = some (.cells vs.toArray T fr)) : w.cell? ⟨b, o, none⟩ = vs[o]? := by
  simp [World.cell?, h]

theorem cellsAt_of {w : World} {b off : Nat} {vs us : List Value} {T : TypeId} {fr : Nat × Nat} (h : w.heap[b]? = some (.cells vs.toArray T fr))
    (hu : ∀ j v, us[j]? = some v → vs[off + j]? = some v) : cellsAt w b off us := by
  intro j v hv
  rw [cell?_of h]; exact hu j v hv

theorem cellsAt_drop {w : World} {b off n : Nat} {us : List Value} (h : cellsAt w b off us) : cellsAt w b (off + n) (us.drop n) := by
  intro j v hv
  rw [List.getElem?_drop] at hv
  have := h (n + j) v hv
  rwa [← Nat.add_assoc] at this

theorem cellsAt_take {w : World} {b off n : Nat} {us : List Value} (h : cellsAt w b off us) : cellsAt w b off (us.take n) := by
  intro j v hv
  rw [List.getElem?_take] at hv
  split at hv
  · exact h j v hv
  · cases hv

theorem cellsAt_cons {w : World} {b off : Nat} {u : Value} {us : List Value} (h : cellsAt w b off (u :: us)) : w.cell? ⟨b, off, none⟩ = some u ∧ cellsAt w b (off + 1) us :=
  ⟨h 0 u rfl, cellsAt_drop (n := 1) h⟩

theorem run_load {P : Program} {w : World} {a : Addr} {v : Value} (h : w.cell? a = some v) : (load a).run P w = .ok v w := by
  simp [load, Sem.run, h]

theorem Sem.run_bind' {α β : Type} {P : Program} {e : Sem α} {f : α → Sem β} {w w' : World} {a : α} (h : e.run P w = .ok a w') : (e >>= f).run P w = (f a).run P w' := by
  show (e.bind f).run P w = _
  induction e generalizing w with
  | pure x => simp [Sem.run] at h; obtain ⟨rfl, rfl⟩ := h; rfl
  | load m a k ih =>
    simp only [Sem.bind, Sem.run] at h ⊢
    split at h
    · exact ih _ h
    · split at h
      · exact ih _ h
      · cases h
  | store m a v k ih =>
    cases v <;> simp only [Sem.bind, Sem.run] at h ⊢ <;> first
      | cases h
      | (split at h
         · split at h
           · cases h
           · rename_i hf; simp only [hf]; exact ih h
         · split at h
           · exact ih h
           · cases h)
  | new o k ih => simp only [Sem.bind, Sem.run] at h ⊢; exact ih _ h
  | shape r k ih => simp only [Sem.bind, Sem.run] at h ⊢; exact ih _ h
  | freeze a n k ih => simp only [Sem.bind, Sem.run] at h ⊢; exact ih h
  | frozen a k ih => simp only [Sem.bind, Sem.run] at h ⊢; exact ih _ h
  | getObj r k ih =>
    simp only [Sem.bind, Sem.run] at h ⊢
    split at h
    · cases h
    · exact ih _ h
    · cases h
  | setObj r o k ih =>
    simp only [Sem.bind, Sem.run] at h ⊢
    split at h
    · cases h
    · exact ih h
    · cases h
  | choose q k ih =>
    simp only [Sem.bind, Sem.run] at h ⊢
    split at h
    · rename_i hq; simp only [hq, if_true]; exact ih _ h
    · rename_i hq; simp only [hq]; exact ih _ h
  | sys c k ih => simp only [Sem.bind, Sem.run] at h ⊢; exact ih _ h
  | program k ih => simp only [Sem.bind, Sem.run] at h ⊢; exact ih _ h
  | mark m k ih => simp only [Sem.bind, Sem.run] at h ⊢; exact ih h
  | halt x => simp [Sem.run] at h

theorem run_loadCellsFrom {P : Program} {w : World} {b off : Nat} : ∀ (vs : List Value) (i : Nat) (acc : Array Value), cellsAt w b (off + i) vs →
    (loadCellsFrom ⟨b, off, none⟩ i vs.length acc).run P w = .ok (acc ++ vs.toArray) w
  | [], i, acc, _ => by simp [loadCellsFrom, pure, Sem.run]
  | v :: vs, i, acc, h => by
    obtain ⟨h1, h2⟩ := cellsAt_cons h
    simp only [List.length_cons, loadCellsFrom]
    rw [addr_add, Sem.run_bind' (run_load h1), run_loadCellsFrom vs (i + 1) (acc.push v) (by rwa [← Nat.add_assoc])]
    simp

theorem run_loadCells {P : Program} {w : World} {b off n : Nat} {vs : List Value} (h : cellsAt w b off vs) (hn : vs.length = n) : (loadCells ⟨b, off, none⟩ n).run P w = .ok vs.toArray w := by
  subst hn
  have := run_loadCellsFrom (P := P) vs 0 #[] (by simpa using h)
  simpa [loadCells] using this

def setBlk (w : World) (b : Nat) (o : Obj) : World := { w with heap := w.heap.setIfInBounds b o }

theorem setCell_eq {w : World} {b j : Nat} {arr : Array Value} {T : TypeId} {fr : Nat × Nat} (h : w.heap[b]? = some (.cells arr T fr)) (v : Value) :
    w.setCell ⟨b, j, none⟩ v = setBlk w b (.cells (arr.setIfInBounds j v) T fr) := by
  unfold World.setCell setBlk
  congr 1
  apply Array.ext_getElem?
  intro i
  rw [Array.getElem?_modify, Array.getElem?_setIfInBounds]
  by_cases hi : b = i
  · subst hi
    have : b < w.heap.size := by
      rcases Nat.lt_or_ge b w.heap.size with h' | h'
      · exact h'
      · simp [Array.getElem?_eq_none h'] at h
    have hg : w.heap[b] = .cells arr T fr := by
      rw [Array.getElem?_eq_getElem this] at h; injection h
    simp [hg, this]
  · simp [hi]

theorem setBlk_get {w : World} {b : Nat} {o o' : Obj} (h : w.heap[b]? = some o') : (setBlk w b o).heap[b]? = some o := by
  have : b < w.heap.size := by
    rcases Nat.lt_or_ge b w.heap.size with h' | h'
    · exact h'
    · simp [Array.getElem?_eq_none h'] at h
  simp [setBlk, this]

theorem setBlk_other {w : World} {b i : Nat} {o : Obj} (h : i ≠ b) : (setBlk w b o).heap[i]? = w.heap[i]? := by
  simp [setBlk, Ne.symm h]

theorem setBlk_setBlk {w : World} {b : Nat} {o o' : Obj} : setBlk (setBlk w b o) b o' = setBlk w b o' := by
  unfold setBlk
  congr 1
  apply Array.ext_getElem?
  intro i
  simp only [Array.getElem?_setIfInBounds, Array.size_setIfInBounds]
  split <;> rfl

def overl (vs : List Value) (n : Nat) (us : List Value) : List Value := vs.take n ++ us ++ vs.drop (n + us.length)

theorem run_storeCells {P : Program} {b off : Nat} {T : TypeId} {fr : Nat × Nat} : ∀ (us : List Value) (i : Nat) (w : World) (vs : List Value), w.heap[b]? = some (.cells vs.toArray T fr) →
    (∀ u ∈ us, oneC u = true) → off + i + us.length ≤ vs.length → unfr fr vs.length →
    (storeCells ⟨b, off, none⟩ us i).run P w = .ok () (if us = [] then w else setBlk w b (.cells (overl vs (off + i) us).toArray T fr))
  | [], i, w, vs, _, _, _, _ => by simp [storeCells, pure, Sem.run]
  | u :: us, i, w, vs, h, ho, hl, hu => by
    have hlt : off + i < vs.length := by simp at hl; omega
    have hc : w.cell? ⟨b, off + i, none⟩ = some vs[off + i] := by rw [cell?_of h]; simp [hlt]
    have hfr : w.frozen? ⟨b, off + i, none⟩ = false := by
      simp only [World.frozen?, h]
      have := hu (off + i) hlt
      simpa using this
    have hst : (store ((⟨b, off, none⟩ : Addr).add i) u).run P w = .ok () (w.setCell ⟨b, off + i, none⟩ u) := by
      rw [addr_add]
      have h1 := ho u (List.mem_cons_self ..)
      cases u <;> simp [oneC] at h1 <;> simp [store, Sem.run, hc, hfr]
    simp only [storeCells]
    rw [Sem.run_bind' hst]
    have hb : (w.setCell ⟨b, off + i, none⟩ u).heap[b]? = some (.cells (vs.set (off + i) u).toArray T fr) := by
      rw [setCell_eq h, setBlk_get h]; simp
    rw [run_storeCells us (i + 1) _ _ hb (fun x hx => ho x (List.mem_cons_of_mem _ hx)) (by simp at hl ⊢; omega) (by simpa using hu)]
    have e : ∀ us', overl (vs.set (off + i) u) (off + (i + 1)) us' = overl vs (off + i) (u :: us') := by
      intro us'
      unfold overl
      have e1 : (vs.set (off + i) u).take (off + (i + 1)) = vs.take (off + i) ++ [u] := by
        rw [← Nat.add_assoc, List.take_set, List.take_succ_eq_append_getElem hlt]
        rw [List.set_append_right _ _ (by simp; omega)]
        simp [Nat.min_eq_left (Nat.le_of_lt hlt)]
      rw [e1, List.drop_set_of_lt (by omega)]
      simp [Nat.add_assoc, Nat.add_comm 1]
    by_cases hus : us = []
    · subst hus
      simp only [if_true, List.cons_ne_nil, if_false]
      rw [setCell_eq h]
      have := e []
      simp only [overl, List.append_nil, List.length_nil, Nat.add_zero, List.take_append_drop] at this
      rw [← overl] at this
      simp only [List.setIfInBounds_toArray]
      rw [this]
    · simp only [hus, if_false, List.cons_ne_nil]
      rw [setCell_eq h, setBlk_setBlk, e]

end GoX
/- What each operation of the abstract machine tells is what the program's operation does: the operations that touch no memory. -/
set_option autoImplicit false
namespace GoX
open Go

section basics
variable {P : Program} {w : World} {t : TypeId}
theorem run_pure {α : Type} {x : α} : (pure x : Sem α).run P w = .ok x w := rfl
theorem run_underlying {d : TypeDesc} (h : P.underlying t = some d) : (underlying t).run P w = .ok d w := by
  simp [underlying, program, bind, Sem.bind, Sem.run, h, pure]
theorem run_typeInfo {i : TypeInfo} (h : P.info? t = some i) : (typeInfo t).run P w = .ok i w := by
  simp [typeInfo, program, bind, Sem.bind, Sem.run, h, pure]
theorem run_sizeOf {i : TypeInfo} (h : P.info? t = some i) : (Go.sizeOf t).run P w = .ok i.size w := by
  unfold Go.sizeOf; rw [Sem.run_bind' (run_typeInfo h)]; rfl
theorem run_zeroValue {i : TypeInfo} {z : Value} (h : P.info? t = some i) (hz : i.zero = some z) : (zeroValue t).run P w = .ok z w := by
  unfold Go.zeroValue; rw [Sem.run_bind' (run_typeInfo h)]; simp [hz, pure, Sem.run]
def aggB : TypeDesc → Bool
  | .struct _ | .array _ _ => true
  | _ => false
theorem run_isAgg {d : TypeDesc} (h : P.underlying t = some d) : (isAgg t).run P w = .ok (aggB d) w := by
  unfold Go.isAgg; rw [Sem.run_bind' (run_underlying h)]; cases d <;> rfl
end basics

structure Rx (ρ : Nat → Place) (I : Nat → Prop) (s : St) (a : Go.Act) (w : World) : Prop where
  heap : RH ρ I w (lk s.h)
  tmps : ∀ t, DenV ρ I w (s.get t) (a.tmps.getD t undef)

section
variable {ρ : Nat → Place} {I : Nat → Prop} {w : World}

theorem ofCell_ok {x : Value} {v : V} (h : ofCell x = some v) : DenL ρ I w [v] [x] := by
  unfold ofCell at h
  split at h <;> first
    | (split at h
       · rename_i hk
         injection h with h; subst h
         simp only [okInt, Bool.and_eq_true, decide_eq_true_eq] at hk
         exact .i _ _ hk .nil
       · cases h)
    | (split at h
       · rename_i hk
         injection h with h; subst h
         exact .s _ (of_decide_eq_true hk) .nil
       · cases h)
    | (injection h with h; subst h; constructor; exact .nil)
    | cases h

theorem mapM_cells {xs : List Value} {vs : List V} (h : xs.mapM ofCell = some vs) : DenL ρ I w vs xs := by
  induction xs generalizing vs with
  | nil => simp at h; subst h; exact .nil
  | cons x xs ih =>
    rw [List.mapM_cons] at h
    simp only [bind, Option.bind_eq_some_iff, pure, Option.some.injEq] at h
    obtain ⟨v, hv, us, hu, rfl⟩ := h
    exact (ofCell_ok hv).cons_join (ih hu)

theorem DenV.of1 {v : V} {x : Value} (h : DenL ρ I w [v] [x]) : DenV ρ I w v x := by
  cases v <;> first
    | trivial
    | exact h
    | cases h

theorem ofValue_ok {x : Value} {v : V} (h : ofValue x = some v) : DenV ρ I w v x := by
  unfold ofValue at h
  split at h
  · simp only [Option.map_eq_some_iff] at h
    obtain ⟨vs, hv, rfl⟩ := h
    exact ⟨_, by simp, mapM_cells hv⟩
  · exact .of1 (ofCell_ok h)

theorem Rx.ev {s : St} {a : Go.Act} (R : Rx ρ I s a w) {x : Operand} {xo : XO} (h : ofOpd x = some xo) : DenV ρ I w (s.ev xo) (a.eval x) := by
  cases x with
  | tmp t => simp [ofOpd] at h; subst h; exact R.tmps t
  | const v => simp only [ofOpd, Option.map_eq_some_iff] at h; obtain ⟨u, hu, rfl⟩ := h; exact ofValue_ok hu
  | func f => simp [ofOpd] at h; subst h; exact DenL.fn f [] [] .nil .nil
  | global g =>
    simp only [ofOpd, Option.map_eq_some_iff] at h
    obtain ⟨cs, hg, rfl⟩ := h
    obtain ⟨h1, vs, h2, h3⟩ := R.heap.glob g cs hg
    exact DenL.pi _ _ _ _ h1 (h2.mono (N := fun _ => true) (fun _ h => h) (fun _ _ => rfl) (fun _ h => by cases h) (globs_no hg _)) h3 .nil

/-! what a value of each kind is -/
theorem DenV.b {t : Bool} {x : Value} (h : DenV ρ I w (.b t) x) : x = .bool t := by cases (show DenL ρ I w [_] [_] from h); rfl
theorem DenV.i {k : IntKind} {n : Int} {x : Value} (h : DenV ρ I w (.i k n) x) : x = .int k n ∧ inR k n := by
  cases (show DenL ρ I w [_] [_] from h); exact ⟨rfl, by assumption⟩
theorem DenV.f {n : Nat} {x : Value} (h : DenV ρ I w (.f n) x) : x = .float .f64 n := by cases (show DenL ρ I w [_] [_] from h); rfl
theorem DenV.u {n : Int} {x : Value} (h : DenV ρ I w (.u n) x) : x = .int .i64 n := by cases (show DenL ρ I w [_] [_] from h); rfl
theorem DenV.s {l : Bs} {x : Value} (h : DenV ρ I w (.s l) x) : ∃ b, x = .string b ∧ l = toInts b ∧ okLen b.size := by
  cases (show DenL ρ I w [_] [_] from h); exact ⟨_, rfl, rfl, by assumption⟩
theorem DenV.np {x : Value} (h : DenV ρ I w .np x) : x = .pointer none := by cases (show DenL ρ I w [_] [_] from h); rfl
theorem DenV.ni {x : Value} (h : DenV ρ I w .ni x) : x = .nilIface := by cases (show DenL ρ I w [_] [_] from h); rfl
theorem DenV.nf {x : Value} (h : DenV ρ I w .nf x) : x = .nilFunc := by cases (show DenL ρ I w [_] [_] from h); rfl
theorem DenV.ns {x : Value} (h : DenV ρ I w .ns x) : x = .slice none 0 0 := by cases (show DenL ρ I w [_] [_] from h); rfl
theorem DenV.nm {x : Value} (h : DenV ρ I w .nm x) : x = .map none := by cases (show DenL ρ I w [_] [_] from h); rfl
theorem DenV.pt {id off : Nat} {x : Value} (h : DenV ρ I w (.pt id off) x) : x = .pointer (some ⟨(ρ id).blk, off, none⟩) := by
  cases (show DenL ρ I w [_] [_] from h); rfl
theorem DenV.pa {id off : Nat} {τ : Ty} {n : Nat} {ix : Int} {sub : Nat} {x : Value} (h : DenV ρ I w (.pa id off τ n ix sub) x) :
    x = .pointer (some ⟨(ρ id).blk, off + ix.toNat * τ.size + sub, none⟩) ∧ 0 ≤ ix ∧ ix.toNat < n := by
  cases (show DenL ρ I w [_] [_] from h); exact ⟨rfl, by assumption, by assumption⟩
theorem DenV.pr {id : Nat} {τ : Ty} {ix : Int} {sub : Nat} {x : Value} (h : DenV ρ I w (.pr id τ ix sub) x) :
    x = .pointer (some ⟨(ρ id).blk, (ρ id).off + ix.toNat * τ.size + sub, none⟩) ∧ 0 ≤ ix := by
  cases (show DenL ρ I w [_] [_] from h); exact ⟨rfl, by assumption⟩
theorem DenV.pi {cs : List V} {x : Value} (h : DenV ρ I w (.pi cs) x) :
    ∃ ws blk off, x = .pointer (some ⟨blk, off, none⟩) ∧ I blk ∧ DenL ρ I w cs ws ∧ cellsAt w blk off ws := by
  cases (show DenL ρ I w [_] [_] from h); exact ⟨_, _, _, rfl, by assumption, by assumption, by assumption⟩
theorem DenV.sl {τ : Ty} {xs : List τ.den} {x : Value} (h : DenV ρ I w (.sl τ xs) x) :
    ∃ ad cap, x = .slice ad xs.length cap ∧ xs.length ≤ cap ∧ okLen xs.length ∧ (xs = [] ∨ ∃ (blk off : Nat) (g : Nat → List Value), ad = some ⟨blk, off, none⟩ ∧ I blk ∧
      (∀ n (h : n < xs.length), DenL ρ I w (enc τ xs[n]) (g n)) ∧ (∀ n, n < xs.length → cellsAt w blk (off + n * τ.size) (g n))) := by
  cases (show DenL ρ I w [_] [_] from h) with
  | sl0 τ ad cap h => exact ⟨_, _, rfl, Nat.zero_le _, Nat.zero_le _, .inl rfl⟩
  | sl τ xs blk off cap g hb hl ho h1 hc h => exact ⟨_, _, rfl, hl, ho, .inr ⟨_, _, _, rfl, hb, h1, hc⟩⟩
theorem DenV.ow {id : Nat} {τ : Ty} {off len : Int} {x : Value} (h : DenV ρ I w (.ow id τ off len) x) :
    ∃ ad, x = .slice ad len.toNat ((ρ id).cap - off.toNat) ∧ 0 ≤ off ∧ 0 ≤ len ∧ (off + len).toNat ≤ (ρ id).cap ∧ okLen len.toNat ∧
      (ad = some ⟨(ρ id).blk, (ρ id).off + off.toNat * τ.size, none⟩ ∨ off.toNat = (ρ id).cap) := by
  cases (show DenL ρ I w [_] [_] from h); exact ⟨_, rfl, by assumption, by assumption, by assumption, by assumption, by assumption⟩
theorem DenV.ifa {t : Nat} {cs : List V} {x : Value} (h : DenV ρ I w (.ifa t cs) x) : ∃ ws : List Value, x = .iface t (.agg ws.toArray) ∧ DenL ρ I w cs ws := by
  cases (show DenL ρ I w [_] [_] from h) with | ifa _ _ ws h1 _ => exact ⟨ws, rfl, h1⟩
theorem DenV.fn {f : Nat} {cs : List V} {x : Value} (h : DenV ρ I w (.fn f cs) x) : ∃ ws : List Value, x = .func (.func f) #[] ws.toArray ∧ DenL ρ I w cs ws := by
  cases (show DenL ρ I w [_] [_] from h); exact ⟨_, rfl, by assumption⟩
theorem DenV.mp {id : Nat} {x : Value} (h : DenV ρ I w (.mp id) x) : x = .map (some (ρ id).blk) := by cases (show DenL ρ I w [_] [_] from h); rfl
theorem DenV.ifc {t : Nat} {v : V} {x : Value} (h : DenV ρ I w (.ifc t v) x) : ∃ t' y, x = .iface t' y ∧ (v ≠ .junk → t' = t) ∧ (v ≠ .junk → DenL ρ I w [v] [y]) := by
  cases (show DenL ρ I w [_] [_] from h); exact ⟨_, _, rfl, by assumption, by assumption⟩
theorem DenV.agg {cs : List V} {x : Value} (h : DenV ρ I w (.agg cs) x) : ∃ vs : List Value, x = .agg vs.toArray ∧ DenL ρ I w cs vs := h
theorem DenV.tup {vs : List V} {x : Value} (h : DenV ρ I w (.tup vs) x) : ∃ xs : List Value, x = .tuple xs.toArray ∧ DenT ρ I w vs xs := h
end

theorem inR_wrap (k : IntKind) (x : Int) : inR k (k.wrap x) := by
  have key : ∀ (sg : Bool) (B C : Int), 0 < B → C = 2 * B →
      (if sg = true then -B else 0) ≤ (if (sg && decide (B ≤ x % C)) = true then x % C - C else x % C) ∧
      (if (sg && decide (B ≤ x % C)) = true then x % C - C else x % C) ≤ (if sg = true then B - 1 else C - 1) := by
    intro sg B C hB hC
    have h1 := Int.emod_nonneg x (b := C) (by omega)
    have h2 := Int.emod_lt_of_pos x (b := C) (by omega)
    cases sg
    · simp; omega
    · by_cases h : B ≤ x % C <;> simp [h] <;> omega
  have h2 : (2 : Int) ^ k.bits = 2 * 2 ^ (k.bits - 1) := by
    cases k <;> rfl
  have hp : (0 : Int) < 2 ^ (k.bits - 1) := Int.pow_pos (by decide)
  exact key k.signed _ _ hp h2

theorem toInts_append (a b : ByteArray) : toInts (a ++ b) = toInts a ++ toInts b := by
  unfold toInts
  first
    | rw [ByteArray.data_append, Array.toList_append, List.map_append]
    | rw [ByteArray.append_data, Array.toList_append, List.map_append]

theorem toInts_length (a : ByteArray) : (toInts a).length = a.size := by
  unfold toInts; rw [List.length_map]; rfl

theorem toInts_inj {a b : ByteArray} (h : toInts a = toInts b) : a = b := by
  unfold toInts at h
  have := List.map_inj_right (f := fun u : UInt8 => (u.toNat : Int)) (fun x y hxy => by
    exact UInt8.toNat_inj.1 (Int.ofNat.inj hxy)) |>.1 h
  cases a; cases b; simp at this; simp [this]

theorem toList_eq (a : ByteArray) : a.toList = a.data.toList := Lib.toList_data a

end GoX
/- Each operation that makes and changes no memory does what the abstract machine tells. -/
set_option autoImplicit false
namespace GoX
open Go

/-- What a step's answer says of the operation's run. -/
def R1ok (P : Program) (run : Result Next) (ρ : Nat → Place) (I : Nat → Prop) (w : World) (s : St) (N : Nat → Bool) : R1 → Prop
  | .ok _ v => ∃ x, run = .ok (.value x) w ∧ DenV ρ I w v x
  | .ask p r => p () → R1ok P run ρ I w s N r
  | .any p => ∃ b, p b ∧ run = .ok (.value (.bool b)) w
  | .allI p f => ∃ c, p c ∧ R1ok P run ρ I w s N (f c)
  | .upd _ F h v => ∃ ρ' I' w' nx x, run = .ok nx w' ∧ (nx = .value x ∨ nx = .skip ∧ x = undef) ∧ RH ρ' I' w' (lk h) ∧
      Loc ρ I w (Hf.part (lk s.h) F.contains) ρ' I' w' (lk h) N ∧ DenV ρ' I' w' v x
  | .call f l => ∃ xs : List Value, run = (callFunc f xs.toArray).run P w ∧ DenT ρ I w l xs
  | .pan v => ∃ x, run = .halt (.panic x) w ∧ DenV1 ρ I w v x
  | .fail => True

section
variable {P : Program} {ρ : Nat → Place} {I : Nat → Prop} {s : St} {a : Go.Act} {w : World} {N : Nat → Bool} {oo : Oper}

theorem run_v {f : Sem Value} {x : Value} (h : f.run P w = .ok x w) : (do let y ← f; pure (Next.value y) : Sem Next).run P w = .ok (.value x) w := by
  rw [Sem.run_bind' h]; rfl

theorem run_v' {f : Sem Value} {x : Value} {w' : World} (h : f.run P w = .ok x w') : (do let y ← f; pure (Next.value y) : Sem Next).run P w = .ok (.value x) w' := by
  rw [Sem.run_bind' h]; rfl

theorem ok_mv (R : Rx ρ I s a w) {x : Operand} {xo : XO} (hx : ofOpd x = some xo) (ho : oo.op = .move x ∨ oo.op = .assign x) :
    R1ok P ((execOp a.eval oo).run P w) ρ I w s N (owner s oo.dst (.mv xo)) := by
  rcases ho with ho | ho <;> exact ⟨a.eval x, by simp only [execOp, ho]; rfl, R.ev hx⟩

theorem ok_pick (R : Rx ρ I s a w) {c x y : Operand} {co xo yo : XO} (hc : ofOpd c = some co) (hx : ofOpd x = some xo) (hy : ofOpd y = some yo) (ho : oo.op = .pick c x y) :
    R1ok P ((execOp a.eval oo).run P w) ρ I w s N (owner s oo.dst (.pick co xo yo)) := by
  simp only [owner]
  split
  · rename_i t ht
    have h1 := R.ev hc
    rw [ht] at h1
    have h2 := h1.b
    refine ⟨if t then a.eval x else a.eval y, ?_, ?_⟩
    · simp only [execOp, ho, h2]
      cases t <;> rfl
    · cases t
      · exact R.ev hy
      · exact R.ev hx
  · trivial

theorem wr_R (k : IntKind) (x : Int) : inR k (wr k x) := by rw [wr_def]; exact inR_wrap k x
theorem bitI_R (op : BinOp) (k : IntKind) (x y : Int) : inR k (bitI op k x y) := by rw [bitI_def]; exact inR_wrap k _

theorem den_i {k : IntKind} {n : Int} (h : inR k n) : DenV ρ I w (.i k n) (.int k n) := DenL.i k n h .nil
theorem den_b {t : Bool} : DenV ρ I w (.b t) (.bool t) := DenL.b t .nil

theorem run_binOp {op : BinOp} {t : TypeId} {x y : Operand} {u : TypeId} {v : Value}
    (hg : (eqGuard op t x y (a.eval x) (a.eval y)).run P w = .ok () w) (h : (binOp op t (a.eval x) (a.eval y)).run P w = .ok v w) (ho : oo.op = .binOp op t x y u) :
    (execOp a.eval oo).run P w = .ok (.value v) w := by
  simp only [execOp, ho]
  exact run_v (by rw [Sem.run_bind' hg]; exact h)

theorem guard_ok {op : BinOp} {t : TypeId} {x y : Operand} {a b : Value} (h : (∀ cs, a ≠ .agg cs) ∧ (a = .nilIface → b = .nilIface → ∃ v, y = .const v)) :
    (eqGuard op t x y a b).run P w = .ok () w := by
  obtain ⟨h1, h2⟩ := h
  cases op <;> first
    | rfl
    | (cases a <;> cases b <;> first
        | rfl
        | (obtain ⟨v, rfl⟩ := h2 rfl rfl; cases x <;> rfl)
        | (exact absurd rfl (h1 _)))

theorem tmod_le {x n : Int} (h : 0 ≤ x) : 0 ≤ x.tmod n ∧ x.tmod n ≤ x := by
  refine ⟨Int.tmod_nonneg _ h, ?_⟩
  obtain ⟨a, rfl⟩ := Int.eq_ofNat_of_zero_le h
  have key : ∀ b : Nat, (a : Int).tmod (b : Int) ≤ a := by
    intro b
    rw [← Int.ofNat_tmod]
    exact Int.ofNat_le.2 (Nat.mod_le _ _)
  rcases Int.eq_nat_or_neg n with ⟨b, rfl | rfl⟩
  · exact key b
  · rw [Int.tmod_neg]; exact key b

theorem bit_and (k : IntKind) (m n : Int) : k.wrap ((BitVec.ofInt k.bits m &&& BitVec.ofInt k.bits n).toNat) = bitI .and k m n := by rw [bitI_def]; rfl
theorem bit_or (k : IntKind) (m n : Int) : k.wrap ((BitVec.ofInt k.bits m ||| BitVec.ofInt k.bits n).toNat) = bitI .or k m n := by rw [bitI_def]; rfl
theorem bit_xor (k : IntKind) (m n : Int) : k.wrap ((BitVec.ofInt k.bits m ^^^ BitVec.ofInt k.bits n).toNat) = bitI .xor k m n := by rw [bitI_def]; rfl
theorem bit_andNot (k : IntKind) (m n : Int) : k.wrap ((BitVec.ofInt k.bits m &&& ~~~BitVec.ofInt k.bits n).toNat) = bitI .andNot k m n := by rw [bitI_def]; rfl

/-- integers -/
theorem ok_binI {op : BinOp} {t : TypeId} {x y : Operand} {u : TypeId} {k k' : IntKind} {m n : Int} (hx : a.eval x = .int k m) (hy : a.eval y = .int k' n)
    (hm : inR k m) (ho : oo.op = .binOp op t x y u) :
    R1ok P ((execOp a.eval oo).run P w) ρ I w s N (binS op (.i k m) (.i k' n)) := by
  have hg : (eqGuard op t x y (a.eval x) (a.eval y)).run P w = .ok () w := guard_ok ⟨by rw [hx]; simp, by rw [hx]; simp⟩
  have fin : ∀ {v : V} {x' : Value}, (binOp op t (.int k m) (.int k' n)).run P w = .ok x' w → DenV ρ I w v x' → ∃ x', (execOp a.eval oo).run P w = .ok (.value x') w ∧ DenV ρ I w v x' :=
    fun h hd => ⟨_, run_binOp hg (by rw [hx, hy]; exact h) ho, hd⟩
  have shr : ∀ y : Nat, inR k (m.fdiv (2 ^ y)) := by
    intro y
    have h2 : (0 : Int) < 2 ^ y := Int.pow_pos (by decide)
    have h0 : (1 : Int) ≤ 2 ^ y := h2
    obtain ⟨l, r⟩ := hm
    have lo : k.min ≤ 0 := by cases k <;> decide
    have hi : 0 ≤ k.max := by cases k <;> decide
    rw [Int.fdiv_eq_ediv_of_nonneg _ (Int.le_of_lt h2)]
    constructor
    · rcases (by omega : m < 0 ∨ 0 ≤ m) with h | h
      · have h3 : m * 2 ^ y ≤ m * 1 := Int.mul_le_mul_of_nonpos_left (by omega) h0
        have := (Int.le_ediv_iff_mul_le h2 (a := m) (b := m)).2 (by omega)
        omega
      · exact Int.le_trans lo (Int.ediv_nonneg h (Int.le_of_lt h2))
    · rcases (by omega : m < 0 ∨ 0 ≤ m) with h | h
      · have := Int.ediv_neg_of_neg_of_pos h h2
        omega
      · exact Int.le_trans (Int.ediv_le_self _ h) r
  by_cases hk : k = k'
  case neg =>
    cases op
    case shl =>
      intro hn
      refine fin (x' := .int k (shI true k m n)) ?_ (den_i (by rw [shI_def]; exact inR_wrap _ _))
      simp only [binOp, Op.shift]
      rw [if_neg (by omega)]
      rw [shI_def]; rfl
    case shr =>
      intro hn
      refine fin (x' := .int k (shI false k m n)) ?_ (den_i (by rw [shI_def]; exact shr _))
      simp only [binOp, Op.shift]
      rw [if_neg (by omega)]
      rw [shI_def]; rfl
    all_goals (simp only [binS]; rw [if_neg hk]; trivial)
  subst hk
  cases op
  case shl =>
    intro hn
    refine fin (x' := .int k (shI true k m n)) ?_ (den_i (by rw [shI_def]; exact inR_wrap _ _))
    simp only [binOp, Op.shift]
    rw [if_neg (by omega)]
    rw [shI_def]; rfl
  case shr =>
    intro hn
    refine fin (x' := .int k (shI false k m n)) ?_ (den_i (by rw [shI_def]; exact shr _))
    simp only [binOp, Op.shift]
    rw [if_neg (by omega)]
    rw [shI_def]; rfl
  all_goals (simp only [binS]; rw [if_pos trivial])
  case add => exact fin (by simp only [binOp, Op.intArith, ne_eq, not_true, if_false]; rfl) (by rw [← wr_def, ← adI_def]; exact den_i (wr_R _ _))
  case sub => exact fin (by simp only [binOp, Op.intArith, ne_eq, not_true, if_false]; rfl) (by rw [← wr_def, ← sbI_def]; exact den_i (wr_R _ _))
  case mul => exact fin (by simp only [binOp, Op.intArith, ne_eq, not_true, if_false]; rfl) (by rw [← wr_def, ← mlI_def]; exact den_i (wr_R _ _))
  case quo =>
    intro hn
    exact fin (x' := .int k (k.wrap (m.tdiv n))) (by simp only [binOp, Op.intDiv, ne_eq, not_true, if_false, if_neg hn]; rfl) (by rw [← wr_def, ← quI_def]; exact den_i (wr_R _ _))
  case rem =>
    intro hn
    suffices trem : inR k (m.tmod n) from fin (x' := .int k (m.tmod n)) (by simp only [binOp, Op.intDiv, ne_eq, not_true, if_false, if_neg hn]; rfl) (by rw [← reI_def]; refine den_i ?_; rw [reI_def]; exact trem)
    obtain ⟨l, r⟩ := hm
    have lo : k.min ≤ 0 := by cases k <;> decide
    have hi : 0 ≤ k.max := by cases k <;> decide
    rcases (by omega : m < 0 ∨ 0 ≤ m) with h | h
    · have h1 : m.tmod n = -((-m).tmod n) := by rw [Int.neg_tmod]; simp
      have h2 := tmod_le (x := -m) (n := n) (by omega)
      constructor <;> omega
    · have h2 := tmod_le (x := m) (n := n) h
      constructor <;> omega
  case and => exact fin (x' := .int k (bitI .and k m n)) (by simp only [binOp, Op.intBits, ne_eq, not_true, if_false, bit_and]; rfl) (den_i (bitI_R _ _ _ _))
  case or => exact fin (x' := .int k (bitI .or k m n)) (by simp only [binOp, Op.intBits, ne_eq, not_true, if_false, bit_or]; rfl) (den_i (bitI_R _ _ _ _))
  case xor => exact fin (x' := .int k (bitI .xor k m n)) (by simp only [binOp, Op.intBits, ne_eq, not_true, if_false, bit_xor]; rfl) (den_i (bitI_R _ _ _ _))
  case andNot => exact fin (x' := .int k (bitI .andNot k m n)) (by simp only [binOp, Op.intBits, ne_eq, not_true, if_false, bit_andNot]; rfl) (den_i (bitI_R _ _ _ _))
  case eql => exact fin (by simp only [binOp, Op.intCmp, ne_eq, not_true, if_false]; rfl) (by rw [eqI_def]; exact den_b)
  case neq => exact fin (by simp only [binOp, Op.intCmp, ne_eq, not_true, if_false]; rfl) (by rw [eqI_def]; exact den_b)
  case lss => exact fin (by simp only [binOp, Op.intCmp, ne_eq, not_true, if_false]; rfl) (by rw [ltI_def]; exact den_b)
  case leq => exact fin (by simp only [binOp, Op.intCmp, ne_eq, not_true, if_false]; rfl) (by rw [leI_def]; exact den_b)
  case gtr => exact fin (by simp only [binOp, Op.intCmp, ne_eq, not_true, if_false]; rfl) (by rw [ltI_def]; exact den_b)
  case geq => exact fin (by simp only [binOp, Op.intCmp, ne_eq, not_true, if_false]; rfl) (by rw [leI_def]; exact den_b)
end

end GoX
/- The other operations that make and change no memory. -/
set_option autoImplicit false
namespace GoX
open Go

section
variable {P : Program} {ρ : Nat → Place} {I : Nat → Prop} {s : St} {a : Go.Act} {w : World} {N : Nat → Bool} {oo : Oper}

theorem den_s {b : ByteArray} (h : okLen b.size) : DenV ρ I w (.s (toInts b)) (.string b) := DenL.s b h .nil

/-- strings, floats -/
theorem ok_binS {op : BinOp} {t : TypeId} {x y : Operand} {u : TypeId} {l m : Bs} {b c : ByteArray} (hx : a.eval x = .string b) (hy : a.eval y = .string c)
    (hl : l = toInts b) (hm : m = toInts c) (ho : oo.op = .binOp op t x y u) :
    R1ok P ((execOp a.eval oo).run P w) ρ I w s N (binS op (.s l) (.s m)) := by
  subst hl; subst hm
  have hg : (eqGuard op t x y (a.eval x) (a.eval y)).run P w = .ok () w := guard_ok ⟨by rw [hx]; simp, by rw [hx]; simp⟩
  have fin : ∀ {v : V} {x' : Value}, (binOp op t (.string b) (.string c)).run P w = .ok x' w → DenV ρ I w v x' → ∃ x', (execOp a.eval oo).run P w = .ok (.value x') w ∧ DenV ρ I w v x' :=
    fun h hd => ⟨_, run_binOp hg (by rw [hx, hy]; exact h) ho, hd⟩
  have e : (b.toList == c.toList) = eqS (toInts b) (toInts c) := by
    rw [eqS_def, Bool.eq_iff_iff, beq_iff_eq, decide_eq_true_iff]
    constructor
    · intro h; rw [toList_eq, toList_eq] at h; unfold toInts; rw [h]
    · intro h; rw [toInts_inj h]
  cases op <;> simp only [binS] <;> first
    | trivial
    | (refine fin (x' := .bool (eqS (toInts b) (toInts c))) ?_ den_b; simp only [binOp, Op.stringOp, e]; rfl)
    | (refine fin (x' := .bool (!eqS (toInts b) (toInts c))) ?_ den_b; simp only [binOp, Op.stringOp, e]; rfl)
    | skip
  case add =>
    intro h
    have h' : ¬ (((b.size + c.size : Nat) : Int) > IntKind.i64.max) := by
      rw [ln_def, ap_def, List.length_append, toInts_length, toInts_length, maxI64_def] at h
      have : IntKind.i64.max = 9223372036854775807 := by decide
      omega
    refine fin (x' := .string (b ++ c)) ?_ (by rw [ap_def, ← toInts_append]; exact den_s (by unfold okLen; rw [ByteArray.size_append]; rw [ln_def, ap_def, List.length_append, toInts_length, toInts_length, maxI64_def] at h; omega))
    simp only [binOp, Op.stringOp, if_neg h']; rfl

theorem ok_binF {op : BinOp} {t : TypeId} {x y : Operand} {u : TypeId} {l m : Nat} (hx : a.eval x = .float .f64 l) (hy : a.eval y = .float .f64 m)
    (ho : oo.op = .binOp op t x y u) : R1ok P ((execOp a.eval oo).run P w) ρ I w s N (binS op (.f l) (.f m)) := by
  have hg : (eqGuard op t x y (a.eval x) (a.eval y)).run P w = .ok () w := guard_ok ⟨by rw [hx]; simp, by rw [hx]; simp⟩
  have fin : ∀ {v : V} {x' : Value}, (binOp op t (.float .f64 l) (.float .f64 m)).run P w = .ok x' w → DenV ρ I w v x' → ∃ x', (execOp a.eval oo).run P w = .ok (.value x') w ∧ DenV ρ I w v x' :=
    fun h hd => ⟨_, run_binOp hg (by rw [hx, hy]; exact h) ho, hd⟩
  cases op <;> simp only [binS] <;> first
    | trivial
    | skip
  case eql => exact fin (x' := .bool (fEq l m)) (by simp only [binOp, Op.floatCmp, fEq_def, ne_eq, not_true, if_false]; rfl) den_b
  case neq => exact fin (x' := .bool (!fEq l m)) (by simp only [binOp, Op.floatCmp, fEq_def, ne_eq, not_true, if_false]; rfl) den_b

theorem ok_binU {op : BinOp} {t : TypeId} {x y : Operand} {u : TypeId} {m n : Int} (hx : a.eval x = .int .i64 m) (hy : a.eval y = .int .i64 n)
    (ho : oo.op = .binOp op t x y u) : R1ok P ((execOp a.eval oo).run P w) ρ I w s N (binS op (.i .i64 m) (.u n)) := by
  have hg : (eqGuard op t x y (a.eval x) (a.eval y)).run P w = .ok () w := guard_ok ⟨by rw [hx]; simp, by rw [hx]; simp⟩
  have fin : ∀ {v : V} {x' : Value}, (binOp op t (.int .i64 m) (.int .i64 n)).run P w = .ok x' w → DenV ρ I w v x' → ∃ x', (execOp a.eval oo).run P w = .ok (.value x') w ∧ DenV ρ I w v x' :=
    fun h hd => ⟨_, run_binOp hg (by rw [hx, hy]; exact h) ho, hd⟩
  cases op <;> simp only [binS] <;> first
    | trivial
    | (refine fin (x' := .bool (ltI m n)) ?_ den_b; simp only [binOp, Op.intCmp, ltI_def, ne_eq, not_true, if_false]; rfl)
    | (refine fin (x' := .bool (leI m n)) ?_ den_b; simp only [binOp, Op.intCmp, leI_def, ne_eq, not_true, if_false]; rfl)
    | (refine fin (x' := .bool (ltI n m)) ?_ den_b; simp only [binOp, Op.intCmp, ltI_def, ne_eq, not_true, if_false]; rfl)
    | (refine fin (x' := .bool (leI n m)) ?_ den_b; simp only [binOp, Op.intCmp, leI_def, ne_eq, not_true, if_false]; rfl)

theorem ok_bin (R : Rx ρ I s a w) {op : BinOp} {t : TypeId} {x y : Operand} {u : TypeId} {xo yo : XO} (hx : ofOpd x = some xo) (hy : ofOpd y = some yo)
    (ho : oo.op = .binOp op t x y u) : R1ok P ((execOp a.eval oo).run P w) ρ I w s N (owner s oo.dst (.bin op xo yo)) := by
  have h1 := R.ev hx
  have h2 := R.ev hy
  simp only [owner]
  generalize s.ev xo = v at h1
  generalize s.ev yo = u at h2
  unfold binS
  split
  · exact ok_binI h1.i.1 h2.i.1 h1.i.2 ho
  · obtain ⟨b, hb, hl, _⟩ := h1.s; obtain ⟨c, hc, hm, _⟩ := h2.s; exact ok_binS hb hc hl hm ho
  · exact ok_binU h1.i.1 h2.u ho
  · exact ok_binF h1.f h2.f ho
  · trivial

/-! equality -/
def EqWay (t : TypeId) (x y : Value) : Prop :=
  (binOp .eql t x y = (Op.equal t x y >>= fun r => pure (.bool r))) ∧ (binOp .neq t x y = (Op.equal t x y >>= fun r => pure (.bool (!r))))

theorem eq_run {op : BinOp} {t : TypeId} {x y : Operand} {u : TypeId} {r : Bool} (neg : Bool) (hop : op = if neg then .neq else .eql)
    (hg : (eqGuard op t x y (a.eval x) (a.eval y)).run P w = .ok () w) (h : (Op.equal t (a.eval x) (a.eval y)).run P w = .ok r w)
    (hw : EqWay t (a.eval x) (a.eval y)) (ho : oo.op = .binOp op t x y u) : (execOp a.eval oo).run P w = .ok (.value (.bool (if neg then !r else r))) w := by
  refine run_binOp hg ?_ ho
  rw [hop]
  cases neg
  · simp only [if_false, Bool.false_eq_true]; rw [hw.1, Sem.run_bind' h]; rfl
  · simp only [if_true]; rw [hw.2, Sem.run_bind' h]; rfl

theorem den_eqB {neg r : Bool} : DenV ρ I w (eqB neg r) (.bool (if neg then !r else r)) := den_b

theorem equal_unfold (t : TypeId) (x y : Value) : Op.equal t x y = Op.equalIn (9999 + 1) t x y := rfl

def eqTab : TypeDesc → Value → Value → Option Bool
  | .bool, .bool a, .bool b => some (a == b)
  | .pointer _, .pointer none, .pointer b => some b.isNone
  | .pointer _, .pointer (some _), .pointer none => some false
  | .slice _, .slice none _ _, .slice b _ _ => some b.isNone
  | .slice _, .slice (some _) _ _, .slice none _ _ => some false
  | .map _ _, .map none, .map b => some b.isNone
  | .map _ _, .map (some _), .map none => some false
  | .interface _, .nilIface, .nilIface => some true
  | .interface _, .iface _ _, .nilIface => some false
  | _, _, _ => none

theorem run_eq_of' {n : Nat} {t : TypeId} {d : TypeDesc} {x y : Value} {r : Bool} (hd : P.underlying t = some d) (h : eqTab d x y = some r) : (Op.equalIn (n + 1) t x y).run P w = .ok r w := by
  simp only [Op.equalIn]
  rw [Sem.run_bind' (run_underlying hd)]
  unfold eqTab at h
  split at h <;> first
    | (cases h; done)
    | (injection h with h; subst h; rfl)

theorem run_eq_of {t : TypeId} {d : TypeDesc} {x y : Value} {r : Bool} (hd : P.underlying t = some d) (h : eqTab d x y = some r) : (Op.equal t x y).run P w = .ok r w := by
  rw [equal_unfold]; exact run_eq_of' hd h

theorem run_eq_ptr {n : Nat} {t e : TypeId} {ei : TypeInfo} {ad : Addr} (hd : P.underlying t = some (.pointer e)) (hei : P.info? e = some ei) :
    (Op.equalIn (n + 1) t (.pointer (some ad)) (.pointer (some ad))).run P w = .ok true w := by
  simp only [Op.equalIn]
  rw [Sem.run_bind' (run_underlying hd)]
  simp only
  rw [Sem.run_bind' (run_sizeOf hei)]
  split
  · simp only [sameAddr, beq_self_eq_true, if_true]; rfl
  · simp only [beq_self_eq_true, if_true]; rfl

theorem run_eq_ifc {n : Nat} {t : TypeId} {ms : Array (String × TypeId)} {tx ty : TypeId} {vx vy : Value} (hd : P.underlying t = some (.interface ms)) (hne : tx ≠ ty) :
    (Op.equalIn (n + 1) t (.iface tx vx) (.iface ty vy)).run P w = .ok false w := by
  simp only [Op.equalIn]
  rw [Sem.run_bind' (run_underlying hd)]
  simp only
  rw [if_pos hne]; rfl

theorem run_eq_ifi {n : Nat} {t : TypeId} {ms : Array (String × TypeId)} {tx : TypeId} {k : IntKind} {i : TypeInfo} {a b : Int} (hd : P.underlying t = some (.interface ms)) (hi : P.info? tx = some i) (hc : i.comparable = true) (hu : P.underlying tx = some (.int k)) :
    (Op.equalIn (n + 2) t (.iface tx (.int k a)) (.iface tx (.int k b))).run P w = .ok (a == b) w := by
  simp only [Op.equalIn]
  rw [Sem.run_bind' (run_underlying hd)]
  simp only [ne_eq, not_true, if_false]
  rw [Sem.run_bind' (run_typeInfo hi)]
  simp only [hc, Bool.not_true, Bool.false_eq_true, if_false]
  rw [Sem.run_bind' (run_underlying hu)]
  simp only [if_true]; rfl

theorem ok_eqi (R : Rx ρ I s a w) {op : BinOp} {t : TypeId} {x y : Operand} {u : TypeId} {xo yo : XO} {neg : Bool} {ms : Array (String × TypeId)} {ts : List (Nat × IntKind)} (hx : ofOpd x = some xo) (hy : ofOpd y = some yo)
    (hop : op = if neg then .neq else .eql) (hd : P.underlying t = some (.interface ms)) (hts : ∀ t k, lk ts t = some k → ∃ i, P.info? t = some i ∧ i.comparable = true ∧ P.underlying t = some (.int k))
    (ho : oo.op = .binOp op t x y u) : R1ok P ((execOp a.eval oo).run P w) ρ I w s N (owner s oo.dst (.eqi neg ts xo yo)) := by
  have h1 := R.ev hx
  have h2 := R.ev hy
  simp only [owner]
  generalize s.ev xo = v at h1
  generalize s.ev yo = u at h2
  split <;> first | trivial | skip
  · rename_i t1 k1 a1 t2 k2 a2
    obtain ⟨_, v1, e1, t1, d1⟩ := h1.ifc
    obtain ⟨_, v2, e2, t2, d2⟩ := h2.ifc
    have d1 := d1 (by simp); have d2 := d2 (by simp)
    obtain rfl := t1 (by simp); obtain rfl := t2 (by simp)
    cases d1; cases d2
    split
    · rename_i ht
      subst ht
      split <;> first | trivial | skip
      rename_i hh
      obtain ⟨rfl, hl⟩ := hh
      obtain ⟨i, hi, hc, hu⟩ := hts _ _ hl
      have key : (Op.equal t (a.eval x) (a.eval y)).run P w = .ok (a1 == a2) w := by
        rw [equal_unfold, e1, e2]; exact run_eq_ifi (n := 9998) hd hi hc hu
      have := eq_run neg hop (guard_ok ⟨by rw [e1]; simp, by rw [e1]; simp⟩) key (by rw [e1, e2]; exact ⟨rfl, rfl⟩) ho
      refine ⟨_, this, ?_⟩
      have e : (a1 == a2) = eqI a1 a2 := by rw [eqI_def]; rfl
      rw [e]; exact den_b
    · rename_i ht
      have key : (Op.equal t (a.eval x) (a.eval y)).run P w = .ok false w := by
        rw [equal_unfold, e1, e2]; exact run_eq_ifc (n := 9999) hd ht
      exact ⟨_, eq_run neg hop (guard_ok ⟨by rw [e1]; simp, by rw [e1]; simp⟩) key (by rw [e1, e2]; exact ⟨rfl, rfl⟩) ho, den_eqB⟩
  · rename_i ta va tb vb _
    obtain ⟨_, v1, e1, t1, d1⟩ := h1.ifc
    obtain ⟨_, v2, e2, t2, d2⟩ := h2.ifc
    split <;> first | trivial | skip
    rename_i ht
    rw [not_or, not_or] at ht
    obtain ⟨ht, ha, hb⟩ := ht
    obtain rfl := t1 (by rintro rfl; exact ha rfl); obtain rfl := t2 (by rintro rfl; exact hb rfl)
    have key : (Op.equal t (a.eval x) (a.eval y)).run P w = .ok false w := by
      rw [equal_unfold, e1, e2]; exact run_eq_ifc (n := 9999) hd ht
    exact ⟨_, eq_run neg hop (guard_ok ⟨by rw [e1]; simp, by rw [e1]; simp⟩) key (by rw [e1, e2]; exact ⟨rfl, rfl⟩) ho, den_eqB⟩

theorem ok_eqk (R : Rx ρ I s a w) {op : BinOp} {t : TypeId} {x y : Operand} {u : TypeId} {xo yo : XO} {k : EK} {neg : Bool} {d : TypeDesc} (hx : ofOpd x = some xo) (hy : ofOpd y = some yo)
    (hop : op = if neg then .neq else .eql) (hd : P.underlying t = some d)
    (hk : (k = .b ∧ d = .bool) ∨ (k = .p ∧ ∃ e, d = .pointer e ∧ (P.info? e).isSome = true) ∨ (k = .sl ∧ ∃ e, d = .slice e) ∨ (k = .m ∧ ∃ e f, d = .map e f) ∨ (k = .if_ ∧ (∃ e, d = .interface e) ∧ ∃ v, y = .const v))
    (ho : oo.op = .binOp op t x y u) : R1ok P ((execOp a.eval oo).run P w) ρ I w s N (owner s oo.dst (.eqk k neg xo yo)) := by
  have h1 := R.ev hx
  have h2 := R.ev hy
  simp only [owner]
  generalize s.ev xo = v at h1
  generalize s.ev yo = u at h2
  have go : ∀ {r : Bool}, (∀ cs, a.eval x ≠ .agg cs) → (a.eval x = .nilIface → a.eval y = .nilIface → ∃ v, y = .const v) → EqWay t (a.eval x) (a.eval y) → eqTab d (a.eval x) (a.eval y) = some r →
      ∃ x', (execOp a.eval oo).run P w = .ok (.value x') w ∧ DenV ρ I w (eqB neg r) x' := fun h3 h4 h5 h6 =>
    ⟨_, eq_run neg hop (guard_ok ⟨h3, h4⟩) (run_eq_of hd h6) h5 ho, den_eqB⟩
  rcases hk with ⟨rfl, rfl⟩ | ⟨rfl, e, rfl, hei⟩ | ⟨rfl, e, rfl⟩ | ⟨rfl, e, f, rfl⟩ | ⟨rfl, ⟨e, rfl⟩, hc⟩ <;> simp only [eqkS]
  · split
    · have e1 := h1.b; have e2 := h2.b
      exact go (by rw [e1]; simp) (by rw [e1]; simp) (by rw [e1, e2]; exact ⟨rfl, rfl⟩) (by rw [e1, e2]; rfl)
    · trivial
  · split <;> first
      | (split
         · rename_i hab
           obtain ⟨rfl, rfl⟩ := hab
           have e1 := h1.pt; have e2 := h2.pt
           obtain ⟨ei, hei⟩ := Option.isSome_iff_exists.1 hei
           have key : (Op.equal t (a.eval x) (a.eval y)).run P w = .ok true w := by
             rw [equal_unfold, e1, e2]
             exact run_eq_ptr hd hei
           exact ⟨_, eq_run neg hop (guard_ok ⟨by rw [e1]; simp, by rw [e1]; simp⟩) key (by rw [e1, e2]; exact ⟨rfl, rfl⟩) ho, den_eqB⟩
         · trivial)
      | (have e1 := h1.np; have e2 := h2.np; exact go (by rw [e1]; simp) (by rw [e1]; simp) (by rw [e1, e2]; exact ⟨rfl, rfl⟩) (by rw [e1, e2]; rfl))
      | (have e1 := h1.pt; have e2 := h2.np; exact go (by rw [e1]; simp) (by rw [e1]; simp) (by rw [e1, e2]; exact ⟨rfl, rfl⟩) (by rw [e1, e2]; rfl))
      | (have e1 := h1.pa.1; have e2 := h2.np; exact go (by rw [e1]; simp) (by rw [e1]; simp) (by rw [e1, e2]; exact ⟨rfl, rfl⟩) (by rw [e1, e2]; rfl))
      | (have e1 := h1.pr.1; have e2 := h2.np; exact go (by rw [e1]; simp) (by rw [e1]; simp) (by rw [e1, e2]; exact ⟨rfl, rfl⟩) (by rw [e1, e2]; rfl))
      | (obtain ⟨_, _, _, e1, _⟩ := h1.pi; have e2 := h2.np; exact go (by rw [e1]; simp) (by rw [e1]; simp) (by rw [e1, e2]; exact ⟨rfl, rfl⟩) (by rw [e1, e2]; rfl))
      | (have e2 := h2.pt; have e1 := h1.np; exact go (by rw [e1]; simp) (by rw [e1]; simp) (by rw [e1, e2]; exact ⟨rfl, rfl⟩) (by rw [e1, e2]; rfl))
      | (have e2 := h2.pa.1; have e1 := h1.np; exact go (by rw [e1]; simp) (by rw [e1]; simp) (by rw [e1, e2]; exact ⟨rfl, rfl⟩) (by rw [e1, e2]; rfl))
      | (have e2 := h2.pr.1; have e1 := h1.np; exact go (by rw [e1]; simp) (by rw [e1]; simp) (by rw [e1, e2]; exact ⟨rfl, rfl⟩) (by rw [e1, e2]; rfl))
      | (obtain ⟨_, _, _, e2, _⟩ := h2.pi; have e1 := h1.np; exact go (by rw [e1]; simp) (by rw [e1]; simp) (by rw [e1, e2]; exact ⟨rfl, rfl⟩) (by rw [e1, e2]; rfl))
      | trivial
  · split
    · have e1 := h1.ns; have e2 := h2.ns
      exact go (by rw [e1]; simp) (by rw [e1]; simp) (by rw [e1, e2]; exact ⟨rfl, rfl⟩) (by rw [e1, e2]; rfl)
    · rename_i τ xs
      obtain ⟨ad, cap, e1, hl, _, hz⟩ := h1.sl
      have e2 := h2.ns
      have key : ∀ r, eqTab (.slice e) (a.eval x) (a.eval y) = some r → (r = true → ad = none) → R1ok P ((execOp a.eval oo).run P w) ρ I w s N (.any fun b => (b != neg) = true → xs = []) := by
        intro r hr hn
        refine ⟨if neg then !r else r, ?_, eq_run neg hop (guard_ok ⟨by rw [e1]; simp, by rw [e1]; simp⟩) (run_eq_of hd hr) (by rw [e1, e2]; exact ⟨rfl, rfl⟩) ho⟩
        intro hb
        have : r = true := by cases neg <;> cases r <;> simp_all
        rcases hz with rfl | ⟨blk, off, g, rfl, _⟩
        · rfl
        · cases hn this
      cases ad with
      | none => exact key true (by rw [e1, e2]; rfl) (fun _ => rfl)
      | some ad => exact key false (by rw [e1, e2]; rfl) (fun h => by cases h)
    · trivial
  · split
    · have e1 := h1.nm; have e2 := h2.nm
      exact go (by rw [e1]; simp) (by rw [e1]; simp) (by rw [e1, e2]; exact ⟨rfl, rfl⟩) (by rw [e1, e2]; rfl)
    · have e1 := h1.mp; have e2 := h2.nm
      exact go (by rw [e1]; simp) (by rw [e1]; simp) (by rw [e1, e2]; exact ⟨rfl, rfl⟩) (by rw [e1, e2]; rfl)
    · trivial
  · split
    · have e1 := h1.ni; have e2 := h2.ni
      exact go (by rw [e1]; simp) (fun _ _ => hc) (by rw [e1, e2]; exact ⟨rfl, rfl⟩) (by rw [e1, e2]; rfl)
    · obtain ⟨_, v', e1, _⟩ := h1.ifc; have e2 := h2.ni
      exact go (by rw [e1]; simp) (by rw [e1]; simp) (by rw [e1, e2]; exact ⟨rfl, rfl⟩) (by rw [e1, e2]; rfl)
    · obtain ⟨v', e1, _⟩ := h1.ifa; have e2 := h2.ni
      exact go (by rw [e1]; simp) (by rw [e1]; simp) (by rw [e1, e2]; exact ⟨rfl, rfl⟩) (by rw [e1, e2]; rfl)
    · trivial
end
end GoX
/- Slicing, addresses, parts, and the small rest of what touches no memory. -/
set_option autoImplicit false
namespace GoX
open Go

section
variable {P : Program} {ρ : Nat → Place} {I : Nat → Prop} {s : St} {a : Go.Act} {w : World} {N : Nat → Bool} {oo : Oper}

theorem ok_ext (R : Rx ρ I s a w) {x : Operand} {xo : XO} {n : Nat} (hx : ofOpd x = some xo) (ho : oo.op = .extract x n) :
    R1ok P ((execOp a.eval oo).run P w) ρ I w s N (owner s oo.dst (.ext xo n)) := by
  have h1 := R.ev hx
  simp only [owner]
  split
  · rename_i vs hv
    rw [hv] at h1
    obtain ⟨xs, hxs, hd⟩ := h1.tup
    split
    · rename_i v hn
      have key : ∀ (vs : List V) (xs : List Value) (n : Nat), DenT ρ I w vs xs → vs[n]? = some v → ∃ y, xs[n]? = some y ∧ DenV1 ρ I w v y := by
        intro vs
        induction vs with
        | nil => intro xs n _ h; simp at h
        | cons u us ih =>
          intro xs n hd h
          cases hd with
          | cons h1 h2 =>
            cases n with
            | zero => simp at h; subst h; exact ⟨_, rfl, h1⟩
            | succ n => exact ih _ n h2 (by simpa using h)
      obtain ⟨y, hy, hdy⟩ := key vs xs n hd hn
      refine ⟨y, ?_, ?_⟩
      · simp only [execOp, ho, hxs]
        refine run_v ?_
        simp only [Instr.extract, List.getElem?_toArray, hy]; rfl
      · cases v <;> first | exact hdy | (cases hdy; done)
    · trivial
  · trivial

theorem ok_un (R : Rx ρ I s a w) {x : Operand} {xo : XO} {op : UnOp} {t : TypeId} (hx : ofOpd x = some xo) (ho : oo.op = .unOp op t x) :
    R1ok P ((execOp a.eval oo).run P w) ρ I w s N (owner s oo.dst (.un op xo)) := by
  have h1 := R.ev hx
  simp only [owner]
  generalize s.ev xo = v at h1
  split
  · exact ⟨_, by simp only [execOp, ho, h1.b]; exact run_v rfl, den_b⟩
  · rename_i k n
    exact ⟨.int k (wr k (sbI 0 n)), by simp only [execOp, ho, h1.i.1]; refine run_v ?_; simp only [Op.unary, Op.intArith, wr_def, sbI_def]; rfl, den_i (wr_R _ _)⟩
  · rename_i k n
    exact ⟨.int k (bitI .xor k (if k.signed then -1 else k.max) n), by simp only [execOp, ho, h1.i.1]; refine run_v ?_; simp only [Op.unary, Op.intBits, bit_xor]; rfl, den_i (bitI_R _ _ _ _)⟩
  · trivial

theorem ok_ci (R : Rx ρ I s a w) {x : Operand} {xo : XO} {t u : TypeId} {k k' : IntKind} (hx : ofOpd x = some xo) (ho : oo.op = .convert t u x)
    (ht : P.underlying t = some (.int k')) (hu : P.underlying u = some (.int k)) :
    R1ok P ((execOp a.eval oo).run P w) ρ I w s N (owner s oo.dst (.ci k xo)) := by
  have h1 := R.ev hx
  simp only [owner]
  generalize s.ev xo = v at h1
  split
  · rename_i kk n
    refine ⟨.int k (wr k n), ?_, den_i (wr_R _ _)⟩
    simp only [execOp, ho, h1.i.1]
    refine run_v ?_
    unfold convert
    rw [Sem.run_bind' (run_underlying ht), Sem.run_bind' (run_underlying hu), wr_def]; rfl
  · trivial

theorem ok_sid (R : Rx ρ I s a w) {x : Operand} {xo : XO} {t u : TypeId} (hx : ofOpd x = some xo) (ho : oo.op = .convert t u x)
    (ht : P.underlying t = some .string) (hu : P.underlying u = some .string) :
    R1ok P ((execOp a.eval oo).run P w) ρ I w s N (owner s oo.dst (.sid xo)) := by
  have h1 := R.ev hx
  simp only [owner]
  generalize s.ev xo = v at h1
  split
  · obtain ⟨b, hb, rfl, hk⟩ := h1.s
    refine ⟨.string b, ?_, den_s hk⟩
    simp only [execOp, ho, hb]
    refine run_v ?_
    unfold convert
    rw [Sem.run_bind' (run_underlying ht), Sem.run_bind' (run_underlying hu)]; rfl
  · trivial

theorem ok_mkif (R : Rx ρ I s a w) {x : Operand} {xo : XO} {t : TypeId} {d : TypeDesc} (hx : ofOpd x = some xo) (hd : P.underlying t = some d) (hn : ∀ m, d ≠ .interface m) (ho : oo.op = .makeInterface t x) :
    R1ok P ((execOp a.eval oo).run P w) ρ I w s N (owner s oo.dst (.mkif t xo)) := by
  have h1 := R.ev hx
  simp only [owner]
  generalize s.ev xo = v at h1
  have go : DenL ρ I w [v] [a.eval x] → ∃ y, (execOp a.eval oo).run P w = .ok (.value y) w ∧ DenV ρ I w (.ifc t v) y := fun hv =>
    ⟨.iface t (a.eval x), by
      simp only [execOp, ho, Instr.makeInterface]
      refine run_v ?_
      rw [Sem.run_bind' (run_underlying hd)]
      cases d <;> first | rfl | (exact absurd rfl (hn _)), DenL.ifc t t v _ (fun _ => rfl) (fun _ => hv) .nil⟩
  have goa : ∀ cs, DenV ρ I w (.agg cs) (a.eval x) → ∃ y, (execOp a.eval oo).run P w = .ok (.value y) w ∧ DenV ρ I w (.ifa t cs) y := by
    intro cs hv
    obtain ⟨ws, e, h2⟩ := hv.agg
    refine ⟨.iface t (.agg ws.toArray), ?_, DenL.ifa t cs ws h2 .nil⟩
    simp only [execOp, ho, Instr.makeInterface, e]
    refine run_v ?_
    rw [Sem.run_bind' (run_underlying hd)]
    cases d <;> first | rfl | (exact absurd rfl (hn _))
  cases v <;> simp only [R1ok] <;> first
    | trivial
    | exact go h1
    | exact goa _ h1

theorem inR_len {n : Nat} (h : okLen n) : inR .i64 (n : Int) := by
  unfold okLen at h
  constructor
  · have : IntKind.min .i64 = -9223372036854775808 := by decide
    omega
  · have : IntKind.max .i64 = 9223372036854775807 := by decide
    omega

theorem run_builtin {b : Builtin} {xs : List Operand} {ts : Array TypeId} (ho : oo.op = .call { callee := .builtin b, args := xs.toArray, argTypes := ts }) :
    ∃ cs, (execOp a.eval oo).run P w = (Go.builtin b ts oo.type cs (xs.map a.eval).toArray).run P w := by
  refine ⟨(xs.toArray.map fun | .const _ => true | _ => false), ?_⟩
  simp only [execOp, ho, resolve]
  simp only [List.map_toArray]
  rfl

theorem ok_len (R : Rx ρ I s a w) {x : Operand} {xo : XO} {t : TypeId} {ts : Array TypeId} {d : TypeDesc} {str : Bool} (hx : ofOpd x = some xo)
    (ho : oo.op = .call { callee := .builtin .len, args := [x].toArray, argTypes := ts }) (ht : ts[0]? = some t) (hd : P.underlying t = some d)
    (hk : (str = true ∧ d = .string) ∨ (str = false ∧ ∃ e, d = .slice e)) :
    R1ok P ((execOp a.eval oo).run P w) ρ I w s N (owner s oo.dst (.len str xo)) := by
  have h1 := R.ev hx
  simp only [owner]
  generalize s.ev xo = v at h1
  obtain ⟨cs, hrun⟩ := run_builtin (P := P) (a := a) (w := w) ho
  rw [hrun]
  simp only [List.map_cons, List.map_nil]
  have go : ∀ {n : Int}, (Builtin.len_ ts oo.type [a.eval x].toArray).run P w = .ok (goInt n) w → (Go.builtin .len ts oo.type cs [a.eval x].toArray).run P w = .ok (.value (.int .i64 n)) w :=
    fun h => run_v h
  rcases hk with ⟨rfl, rfl⟩ | ⟨rfl, e, rfl⟩
  · split <;> first | trivial | (cases ‹true = false›; done) | skip
    · obtain ⟨b, hb, rfl, hk⟩ := h1.s
      refine ⟨.int .i64 (ln (toInts b)), go ?_, den_i (by rw [ln_def, toInts_length]; exact inR_len hk)⟩
      unfold Builtin.len_
      simp only [ht, hb, List.getElem?_toArray, List.getElem?_cons_zero]
      rw [Sem.run_bind' (run_underlying hd), ln_def, toInts_length]; rfl
  · split <;> first | trivial | skip
    · rename_i τ xs _
      obtain ⟨ad, cap, e1, hl, hk, _⟩ := h1.sl
      refine ⟨.int .i64 (ln xs), go ?_, den_i (by rw [ln_def]; exact inR_len hk)⟩
      unfold Builtin.len_
      simp only [ht, e1, List.getElem?_toArray, List.getElem?_cons_zero]
      rw [Sem.run_bind' (run_underlying hd), ln_def]; rfl
    · refine ⟨.int .i64 0, go ?_, den_i (inR_len (n := 0) (Nat.zero_le _))⟩
      unfold Builtin.len_
      simp only [ht, h1.ns, List.getElem?_toArray, List.getElem?_cons_zero]
      rw [Sem.run_bind' (run_underlying hd)]; rfl
    · rename_i id τ off n _
      obtain ⟨ad, e1, h0, h2, h3, hk, _⟩ := h1.ow
      have hn : ((n.toNat : Nat) : Int) = n := by omega
      refine ⟨.int .i64 n, go ?_, den_i (by rw [← hn]; exact inR_len hk)⟩
      unfold Builtin.len_
      simp only [ht, e1, List.getElem?_toArray, List.getElem?_cons_zero]
      rw [Sem.run_bind' (run_underlying hd)]
      show Result.ok (goInt (n.toNat : Int)) w = _
      rw [hn]

/-! addresses -/
theorem run_asIntOf {k : IntKind} {n : Int} : (asIntOf (.int k n)).run P w = .ok (k, n) w := rfl
theorem run_sureAddr {ad : Addr} : (Instr.sureAddr (.pointer (some ad))).run P w = .ok ad w := rfl

theorem ok_fa (R : Rx ρ I s a w) {x : Operand} {xo : XO} {t : TypeId} {i : Nat} {fs : Array Go.Field} {f : Go.Field} {fi : TypeInfo} (hx : ofOpd x = some xo)
    (ht : P.underlying t = some (.struct fs)) (hf : fs[i]? = some f) (hi : P.info? f.type = some fi) (hz : fi.size ≠ 0) (ho : oo.op = .fieldAddr t x i) :
    R1ok P ((execOp a.eval oo).run P w) ρ I w s N (owner s oo.dst (.fa xo f.offset)) := by
  have h1 := R.ev hx
  simp only [owner]
  generalize s.ev xo = v at h1
  have go : ∀ {b o : Nat}, a.eval x = .pointer (some ⟨b, o, none⟩) → (execOp a.eval oo).run P w = .ok (.value (.pointer (some ⟨b, o + f.offset, none⟩))) w := by
    intro b o he
    simp only [execOp, ho, he]
    refine run_v ?_
    unfold Instr.fieldAt
    rw [Sem.run_bind' (run_underlying ht)]
    simp only [hf]
    rw [Sem.run_bind' run_sureAddr]
    have : (fieldPlace ⟨b, o, none⟩ f).run P w = .ok ⟨b, o + f.offset, none⟩ w := by
      unfold fieldPlace
      rw [Sem.run_bind' (run_sizeOf hi)]
      simp only [hz, if_false, addr_add]; rfl
    rw [Sem.run_bind' this]; rfl
  split <;> first | trivial | skip
  · exact ⟨_, go h1.pt, DenL.pt _ _ .nil⟩
  · obtain ⟨e1, h2, h3⟩ := h1.pa
    refine ⟨_, go e1, ?_⟩
    rw [Nat.add_assoc]
    exact DenL.pa _ _ _ _ _ _ h2 h3 .nil
  · obtain ⟨e1, h2⟩ := h1.pr
    refine ⟨_, go e1, ?_⟩
    rw [Nat.add_assoc]
    exact DenL.pr _ _ _ _ h2 .nil
  · obtain ⟨ws, blk, off, e1, hb, hd, hc⟩ := h1.pi
    split <;> first | trivial | skip
    rename_i ds hds
    exact ⟨_, go e1, DenL.pi _ _ _ _ hb (dropF_ok hds hd) (cellsAt_drop hc) .nil⟩

theorem ok_nchk (R : Rx ρ I s a w) {x : Operand} {xo : XO} (hx : ofOpd x = some xo) (ho : oo.op = .nilCheck x) :
    R1ok P ((execOp a.eval oo).run P w) ρ I w s N (owner s oo.dst (.nchk xo)) := by
  have h1 := R.ev hx
  simp only [owner]
  generalize s.ev xo = v at h1
  split <;> first | trivial | skip
  · refine ⟨_, ?_, h1⟩; have e := h1.pt; simp only [execOp, ho, e]; rfl
  · refine ⟨_, ?_, h1⟩; have e := h1.pa.1; simp only [execOp, ho, e]; rfl
  · refine ⟨_, ?_, h1⟩; have e := h1.pr.1; simp only [execOp, ho, e]; rfl
  · refine ⟨_, ?_, h1⟩; obtain ⟨ws, blk, off, e, _⟩ := h1.pi; simp only [execOp, ho, e]; rfl
  · refine ⟨_, ?_, h1⟩; obtain ⟨ws, e, _⟩ := h1.fn; simp only [execOp, ho, e]; rfl
  · refine ⟨_, ?_, h1⟩; obtain ⟨y, e, _⟩ := h1.ifa; simp only [execOp, ho, e]; rfl
  · refine ⟨_, ?_, h1⟩; obtain ⟨_, y, e, _⟩ := h1.ifc; simp only [execOp, ho, e]; rfl

theorem getD_eq {α : Type} {xs : List α} {n : Nat} {d : α} (h : n < xs.length) : xs.getD n d = xs[n] := by
  simp [List.getD_eq_getElem?_getD, h]

theorem ok_ia (R : Rx ρ I s a w) {x i : Operand} {xo io : XO} {t e : TypeId} {τ : Ty} {ei : TypeInfo} (hx : ofOpd x = some xo) (hi : ofOpd i = some io)
    (ht : P.underlying t = some (.slice e)) (he : P.info? e = some ei) (hz : ei.size = τ.size) (ho : oo.op = .indexAddr t x i) :
    R1ok P ((execOp a.eval oo).run P w) ρ I w s N (owner s oo.dst (.ia τ xo io)) := by
  have h1 := R.ev hx
  have h2 := R.ev hi
  simp only [owner]
  generalize s.ev xo = v at h1
  generalize s.ev io = u at h2
  have go : ∀ {b o len cap : Nat} {k : IntKind} {n : Int}, a.eval x = .slice (some ⟨b, o, none⟩) len cap → a.eval i = .int k n → 0 ≤ n → n < len →
      (execOp a.eval oo).run P w = .ok (.value (.pointer (some ⟨b, o + n.toNat * τ.size, none⟩))) w := by
    intro b o len cap k n e1 e2 h0 hlt
    simp only [execOp, ho, e1, e2]
    refine run_v ?_
    unfold Instr.indexAt
    rw [Sem.run_bind' run_asIntOf]
    simp only
    rw [Sem.run_bind' (run_underlying ht)]
    simp only
    rw [Sem.run_bind' run_pure, Sem.run_bind' (run_underlying ht)]
    simp only [h0, hlt, and_self, if_true]
    rw [Sem.run_bind' (run_sizeOf he), hz, addr_add]; rfl
  split <;> first | trivial | skip
  · rename_i τ' xs k n
    split <;> first | trivial | skip
    rename_i hτ; subst hτ
    rintro ⟨h0, hlt⟩
    obtain ⟨ad, cap, e1, hl, hk, hs⟩ := h1.sl
    rw [ln_def] at hlt
    rcases hs with rfl | ⟨blk, off, g, rfl, hb, hd, hc⟩
    · simp at hlt; omega
    · have hn : n.toNat < xs.length := by omega
      refine ⟨_, go e1 h2.i.1 h0 hlt, ?_⟩
      rw [gt_def, getD_eq hn]
      exact DenL.pi _ _ _ _ hb (hd _ hn) (hc _ hn) .nil
  · rename_i id τ' off len k n
    split <;> first | trivial | skip
    rename_i hτ; subst hτ
    rintro ⟨h0, hlt⟩
    obtain ⟨ad, e1, h3, h4, h5, hk, h6⟩ := h1.ow
    rcases h6 with rfl | h6
    · refine ⟨_, go e1 h2.i.1 h0 (by omega), ?_⟩
      have := DenL.pr (ρ := ρ) (I := I) (w := w) id τ' (off + n) 0 (by omega) .nil
      rw [show (off + n).toNat = off.toNat + n.toNat from by omega, Nat.add_mul, Nat.add_zero, ← Nat.add_assoc, ← adI_def] at this
      exact this
    · omega
end
end GoX
/- Parts, indexes of values, slices, least and greatest; loads. -/
set_option autoImplicit false
namespace GoX
open Go

section
variable {P : Program} {ρ : Nat → Place} {I : Nat → Prop} {s : St} {a : Go.Act} {w : World} {N : Nat → Bool} {oo : Oper}

theorem ext_list (vs : List Value) (off size : Nat) : (vs.toArray.extract off (off + size)) = ((vs.drop off).take size).toArray := by
  rw [List.extract_toArray]
  congr 1
  rw [List.extract_eq_take_drop]
  simp

theorem run_part {t : TypeId} {d : TypeDesc} {ti : TypeInfo} {vs : List Value} {off : Nat} {cs : List V} {v : V} (hd : P.underlying t = some d) (hi : P.info? t = some ti)
    (ho : ofCells (aggB d) cs = some v) (hc : DenL ρ I w cs ((vs.drop off).take ti.size)) :
    ∃ x, (part t vs.toArray off).run P w = .ok x w ∧ DenV ρ I w v x := by
  obtain ⟨h1, h2⟩ := ofCells_ok ho hc
  unfold part
  cases hb : aggB d with
  | true =>
    refine ⟨_, ?_, h1 hb⟩
    rw [Sem.run_bind' (run_isAgg hd)]
    simp only [hb, if_true]
    rw [Sem.run_bind' (run_sizeOf hi), ext_list]; rfl
  | false =>
    obtain ⟨x, hx, hdx⟩ := h2 hb
    refine ⟨x, ?_, hdx⟩
    rw [Sem.run_bind' (run_isAgg hd)]
    simp only [hb, if_false, Bool.false_eq_true]
    have : vs[off]? = some x := by
      have h3 := congrArg (·[0]?) hx
      simp only [List.getElem?_cons_zero] at h3
      rw [List.getElem?_take] at h3
      split at h3
      · rw [List.getElem?_drop] at h3; simpa using h3
      · cases h3
    simp only [List.getElem?_toArray, this]; rfl

theorem ok_fd (R : Rx ρ I s a w) {x : Operand} {xo : XO} {t : TypeId} {i : Nat} {fs : Array Go.Field} {f : Go.Field} {fi : TypeInfo} {d : TypeDesc} (hx : ofOpd x = some xo)
    (ht : P.underlying t = some (.struct fs)) (hf : fs[i]? = some f) (hi : P.info? f.type = some fi) (hd : P.underlying f.type = some d) (ho : oo.op = .field t x i) :
    R1ok P ((execOp a.eval oo).run P w) ρ I w s N (owner s oo.dst (.fd xo f.offset fi.size (aggB d))) := by
  have h1 := R.ev hx
  simp only [owner]
  generalize s.ev xo = v at h1
  split <;> first | trivial | skip
  rename_i cs
  obtain ⟨vs, e1, hc⟩ := h1.agg
  split <;> first | trivial | skip
  rename_i ds hds
  split <;> first | trivial | skip
  rename_i u hu
  rw [Option.bind_eq_some_iff] at hds
  obtain ⟨es, he1, he2⟩ := hds
  obtain ⟨x', hr, hdx⟩ := run_part (P := P) hd hi hu (takeF_ok he2 (dropF_ok he1 hc))
  refine ⟨x', ?_, hdx⟩
  simp only [execOp, ho, e1]
  refine run_v ?_
  unfold Instr.field
  rw [Sem.run_bind' (run_underlying ht)]
  simp only [hf]
  rw [Sem.run_bind' (a := vs.toArray) rfl]
  exact hr

theorem ok_ixs (R : Rx ρ I s a w) {x i : Operand} {xo io : XO} {t : TypeId} (hx : ofOpd x = some xo) (hi : ofOpd i = some io)
    (ht : P.underlying t = some .string) (ho : oo.op = .index t x i) :
    R1ok P ((execOp a.eval oo).run P w) ρ I w s N (owner s oo.dst (.ixs xo io)) := by
  have h1 := R.ev hx
  have h2 := R.ev hi
  simp only [owner]
  generalize s.ev xo = v at h1
  generalize s.ev io = u at h2
  split <;> first | trivial | skip
  rename_i l k n
  rintro ⟨h0, hlt⟩
  obtain ⟨b, e1, rfl, hk⟩ := h1.s
  rw [ln_def, toInts_length] at hlt
  have hn : n.toNat < b.data.toList.length := by have : b.data.toList.length = b.size := rfl; omega
  have hg : gt (toInts b) n 0 = ((b.data.toList[n.toNat]).toNat : Int) := by
    rw [gt_def, getD_eq (by rw [toInts_length]; omega)]
    simp [toInts]
  refine ⟨.int .u8 (gt (toInts b) n 0), ?_, den_i ?_⟩
  · simp only [execOp, ho, e1, h2.i.1]
    refine run_v ?_
    unfold Instr.index
    rw [Sem.run_bind' run_asIntOf]
    simp only
    rw [Sem.run_bind' (run_underlying ht)]
    have hb : b[n.toNat]? = some (b.data.toList[n.toNat]) := by
      have : n.toNat < b.size := by omega
      rw [getElem?_pos b n.toNat this]
      simp [ByteArray.getElem_eq_getElem_data]
    simp only [h0, if_true, hb, hg]; rfl
  · rw [hg]
    have := (b.data.toList[n.toNat]).toNat_lt
    constructor
    · have : IntKind.min .u8 = 0 := by decide
      omega
    · have : IntKind.max .u8 = 255 := by decide
      omega

theorem flat_drop {τ : Ty} {xs : List τ.den} {vs : List Value} (h : DenL ρ I w (xs.flatMap (enc τ)) vs) {n : Nat} (hn : n < xs.length) :
    DenL ρ I w (enc τ xs[n]) ((vs.drop (n * τ.size)).take τ.size) := by
  induction xs generalizing vs n with
  | nil => cases hn
  | cons x xs ih =>
    rw [List.flatMap_cons] at h
    obtain ⟨us, ws, rfl, hl, h1, h2⟩ := h.split
    rw [wdL_enc] at hl
    cases n with
    | zero =>
      simp only [Nat.zero_mul, List.drop_zero, List.getElem_cons_zero]
      rw [List.take_append_of_le_length (by omega), List.take_of_length_le (by omega)]
      exact h1
    | succ n =>
      rw [Nat.succ_mul, List.drop_append, List.drop_eq_nil_of_le (by omega), List.nil_append, hl, Nat.add_sub_cancel]
      exact ih h2 (by simpa using hn)

theorem ok_ixa (R : Rx ρ I s a w) {x i : Operand} {xo io : XO} {t e : TypeId} {τ : Ty} {ei : TypeInfo} {m : Nat} {d : TypeDesc} (hx : ofOpd x = some xo) (hi : ofOpd i = some io)
    (ht : P.underlying t = some (.array m e)) (he : P.info? e = some ei) (hz : ei.size = τ.size) (hd : P.underlying e = some d) (ho : oo.op = .index t x i) :
    R1ok P ((execOp a.eval oo).run P w) ρ I w s N (owner s oo.dst (.ixa m τ (aggB d) xo io)) := by
  have h1 := R.ev hx
  have h2 := R.ev hi
  simp only [owner]
  generalize s.ev xo = v at h1
  generalize s.ev io = u at h2
  split <;> first | trivial | skip
  rename_i τ' n' xs k j
  split <;> first | trivial | skip
  rename_i hh
  obtain ⟨rfl, rfl⟩ := hh
  split <;> first | trivial | skip
  rename_i v' hv'
  rintro ⟨h0, hlt⟩
  obtain ⟨vs, e1, hc⟩ := h1.agg
  obtain ⟨us, ws, rfl, hl, h3, h4⟩ := hc.cons_one
  cases h4
  rw [List.append_nil] at e1
  cases h3 with
  | ar τ xs us h5 h6 =>
    cases h6
    rw [List.append_nil] at e1
    have hj : j.toNat < xs.length := by omega
    rw [gt_def, getD_eq hj] at hv'
    obtain ⟨x', hr, hdx⟩ := run_part (P := P) hd he hv' (by rw [hz]; exact flat_drop h5 hj)
    refine ⟨x', ?_, hdx⟩
    simp only [execOp, ho, e1, h2.i.1]
    refine run_v ?_
    unfold Instr.index
    rw [Sem.run_bind' run_asIntOf]
    simp only
    rw [Sem.run_bind' (run_underlying ht)]
    simp only [h0, hlt, and_self, if_true]
    rw [Sem.run_bind' (run_sizeOf he), hz]
    exact hr

/-! slices of strings and of slices -/
theorem run_sliceBound {k : IntKind} {n : Int} {y : Nat} {c : BoundsCode} (h0 : 0 ≤ n) (h : n ≤ y) : (Instr.sliceBound (.int k n) y c).run P w = .ok n.toNat w := by
  unfold Instr.sliceBound
  rw [Sem.run_bind' run_asIntOf]
  simp only [h0, h, and_self, if_true]; rfl

def optV : Option Value → Option Int → Prop
  | none, none => True
  | some v, some n => ∃ k, v = .int k n
  | _, _ => False

theorem run_sliceBounds {isS : Bool} {len cap : Nat} {lo hi : Option Value} {l h : Option Int} (hl : optV lo l) (hh : optV hi h)
    (h1 : 0 ≤ l.getD 0) (h2 : l.getD 0 ≤ h.getD len) (h3 : h.getD len ≤ cap) :
    (Instr.sliceBounds isS len cap lo hi none).run P w = .ok ((l.getD 0).toNat, (h.getD len).toNat, cap) w := by
  unfold Instr.sliceBounds
  rw [Sem.run_bind' run_pure]
  cases hi with
  | none =>
    cases h with
    | some _ => cases hh
    | none =>
      simp only
      rw [Sem.run_bind' run_pure]
      cases lo with
      | none =>
        cases l with
        | some _ => cases hl
        | none => simp only; rw [Sem.run_bind' run_pure]; simp [pure]
      | some v =>
        cases l with
        | none => cases hl
        | some n =>
          obtain ⟨k, rfl⟩ := hl
          simp only
          rw [Sem.run_bind' (run_sliceBound (by simpa using h1) (by simpa using h2))]
          simp [pure]
  | some v =>
    cases h with
    | none => cases hh
    | some m =>
      obtain ⟨k, rfl⟩ := hh
      simp only [Option.getD_some] at h2 h3 ⊢
      rw [Sem.run_bind' (run_sliceBound (by omega) h3)]
      cases lo with
      | none =>
        cases l with
        | some _ => cases hl
        | none => simp only; rw [Sem.run_bind' run_pure]; simp [pure]
      | some v =>
        cases l with
        | none => cases hl
        | some n =>
          obtain ⟨k, rfl⟩ := hl
          simp only
          rw [Sem.run_bind' (run_sliceBound (by simpa using h1) (by simp at h2 ⊢; omega))]
          simp [pure]

theorem toInts_extract (b : ByteArray) (l h : Nat) : toInts (b.extract l h) = ((toInts b).drop l).take (h - l) := by
  unfold toInts
  rw [Lib.extract_data, List.map_take, List.map_drop]

theorem size_extract_le (b : ByteArray) (l h : Nat) : (b.extract l h).size ≤ b.size := by
  rw [← toInts_length, toInts_extract, List.length_take, List.length_drop, toInts_length]; omega

theorem ofOpt {lo : Option Operand} {lx : Option XO} (h : lo.mapM ofOpd = some lx) : (lx = none ∧ lo = none) ∨ ∃ o x, lo = some o ∧ lx = some x ∧ ofOpd o = some x := by
  cases lo with
  | none => simp at h; exact .inl ⟨h.symm, rfl⟩
  | some o =>
    simp only [Option.mapM_some, Option.map_eq_map, Option.map_eq_some_iff] at h
    obtain ⟨x, hx, rfl⟩ := h
    exact .inr ⟨o, x, rfl, rfl, hx⟩

theorem optV_of {lo : Option Operand} {lx : Option XO} (h : lo.mapM ofOpd = some lx) (R : Rx ρ I s a w) :
    (lx.map s.ev = none ∧ lo.map a.eval = none) ∨ ∃ v x, lx.map s.ev = some v ∧ lo.map a.eval = some x ∧ DenV ρ I w v x := by
  rcases ofOpt h with ⟨rfl, rfl⟩ | ⟨o, x, rfl, rfl, hx⟩
  · exact .inl ⟨rfl, rfl⟩
  · exact .inr ⟨_, _, rfl, rfl, R.ev hx⟩

theorem optV_i {lo : Option Operand} {lx : Option XO} (h : lo.mapM ofOpd = some lx) (R : Rx ρ I s a w) {k : IntKind} {n : Int} (he : lx.map s.ev = some (.i k n)) :
    optV (lo.map a.eval) (some n) := by
  rcases optV_of h R with ⟨h1, _⟩ | ⟨v, x, h1, h2, h3⟩
  · rw [h1] at he; cases he
  · rw [h1] at he; injection he with he; subst he; rw [h2]; exact ⟨k, h3.i.1⟩

theorem optV_n {lo : Option Operand} {lx : Option XO} (h : lo.mapM ofOpd = some lx) (R : Rx ρ I s a w) (he : lx.map s.ev = none) : optV (lo.map a.eval) none := by
  rcases optV_of h R with ⟨h1, h2⟩ | ⟨v, x, h1, h2, h3⟩
  · rw [h2]; trivial
  · rw [h1] at he; cases he

theorem ok_sls (R : Rx ρ I s a w) {x : Operand} {xo : XO} {t : TypeId} {lo hi : Option Operand} {lx hx' : Option XO} (hx : ofOpd x = some xo)
    (hlo : lo.mapM ofOpd = some lx) (hhi : hi.mapM ofOpd = some hx') (ht : P.underlying t = some .string) (ho : oo.op = .slice t x lo hi none) :
    R1ok P ((execOp a.eval oo).run P w) ρ I w s N (owner s oo.dst (.sls xo lx hx')) := by
  have h1 := R.ev hx
  simp only [owner]
  generalize s.ev xo = v at h1
  have go : ∀ {b : ByteArray} {l h : Option Int}, a.eval x = .string b → okLen b.size → optV (lo.map a.eval) l → optV (hi.map a.eval) h → 0 ≤ l.getD 0 → l.getD 0 ≤ h.getD b.size → h.getD b.size ≤ b.size →
      ∃ y, (execOp a.eval oo).run P w = .ok (.value y) w ∧ DenV ρ I w (.s (((toInts b).drop (l.getD 0).toNat).take ((h.getD b.size).toNat - (l.getD 0).toNat))) y := by
    intro b l h e1 hk hl hh h3 h4 h5
    refine ⟨.string (b.extract (l.getD 0).toNat (h.getD b.size).toNat), ?_, ?_⟩
    · simp only [execOp, ho, e1, Option.map_none]
      refine run_v ?_
      unfold Instr.sliceAt
      rw [Sem.run_bind' (run_underlying ht)]
      simp only
      unfold Instr.slice
      rw [Sem.run_bind' (run_underlying ht)]
      simp only [Option.isSome_none, Bool.false_eq_true, if_false]
      rw [Sem.run_bind' (run_sliceBounds hl hh h3 h4 h5)]; rfl
    · rw [← toInts_extract]; exact den_s (Nat.le_trans (size_extract_le ..) hk)
  split <;> first | trivial | skip
  · rename_i t' e2 e3
    obtain ⟨b, e1, rfl, hk⟩ := h1.s
    have := go e1 hk (optV_n hlo R e2) (optV_n hhi R e3) (by simp) (by simp) (by simp)
    simpa [R1ok, List.take_of_length_le, toInts_length] using this
  · rename_i t' k n e2 e3
    rintro ⟨h0, hle⟩
    obtain ⟨b, e1, rfl, hk⟩ := h1.s
    rw [ln_def, toInts_length] at hle
    have := go e1 hk (optV_i hlo R e2) (optV_n hhi R e3) (by simpa using h0) (by simpa using hle) (by simp)
    rw [dr_def]
    have e : List.take (b.size - n.toNat) ((toInts b).drop n.toNat) = (toInts b).drop n.toNat := List.take_of_length_le (by rw [List.length_drop, toInts_length]; omega)
    simpa [R1ok, e] using this
  · rename_i t' k n e2 e3
    rintro ⟨h0, hle⟩
    obtain ⟨b, e1, rfl, hk⟩ := h1.s
    rw [ln_def, toInts_length] at hle
    have := go e1 hk (optV_n hlo R e2) (optV_i hhi R e3) (by simp) (by simpa using h0) (by simpa using hle)
    rw [tk_def]
    simpa [R1ok] using this
  · rename_i t' k n k' m e2 e3
    rintro ⟨h0, h01, hle⟩
    obtain ⟨b, e1, rfl, hk⟩ := h1.s
    rw [ln_def, toInts_length] at hle
    have := go e1 hk (optV_i hlo R e2) (optV_i hhi R e3) (by simpa using h0) (by simpa using h01) (by simpa using hle)
    rw [dr_def, tk_def, List.drop_take]
    simpa [R1ok] using this

theorem slice_den {τ : Ty} {xs : List τ.den} {ad : Option Addr} {cap l h : Nat} (e1 : DenV ρ I w (.sl τ xs) (.slice ad xs.length cap)) (h1 : l ≤ h) (h2 : h ≤ xs.length) :
    DenV ρ I w (.sl τ ((xs.drop l).take (h - l))) (.slice (if cap = l then ad else ad.map (·.add (l * τ.size))) (h - l) (cap - l)) := by
  obtain ⟨ad', cap', e, hl, hk, hs⟩ := e1.sl
  injection e with e2 e3 e4; subst e2; subst e4
  have hlen : ((xs.drop l).take (h - l)).length = h - l := by rw [List.length_take, List.length_drop]; omega
  by_cases hz : h - l = 0
  · have : (xs.drop l).take (h - l) = [] := by rw [hz]; rfl
    rw [this, hz]
    exact DenL.sl0 τ _ _ .nil
  · rcases hs with rfl | ⟨blk, off, g, rfl, hb, hd, hc⟩
    · simp at h2; omega
    · rw [if_neg (by omega)]
      simp only [Option.map_some, addr_add]
      have key := DenL.sl (ρ := ρ) (I := I) (w := w) τ ((xs.drop l).take (h - l)) blk (off + l * τ.size) (cap - l) (fun n => g (l + n)) hb (by rw [hlen]; omega) (by rw [hlen]; unfold okLen at *; omega)
        (fun n hn => by
          rw [hlen] at hn
          have := hd (l + n) (by omega)
          simpa using this)
        (fun n hn => by
          rw [hlen] at hn
          have := hc (l + n) (by omega)
          rw [Nat.add_mul, ← Nat.add_assoc] at this
          exact this) .nil
      rw [hlen] at key
      exact key

theorem slice_den_ow {id : Nat} {τ : Ty} {off len : Int} {ad : Option Addr} {l h : Int} (e1 : DenV ρ I w (.ow id τ off len) (.slice ad len.toNat ((ρ id).cap - off.toNat)))
    (h0 : 0 ≤ l) (h1 : l ≤ h) (h2 : h ≤ len) :
    DenV ρ I w (.ow id τ (off + l) (h - l)) (.slice (if (ρ id).cap - off.toNat = l.toNat then ad else ad.map (·.add (l.toNat * τ.size))) (h.toNat - l.toNat) ((ρ id).cap - off.toNat - l.toNat)) := by
  obtain ⟨ad', e, h3, h4, h5, hk, h6⟩ := e1.ow
  injection e with e2 e3 e4; subst e2
  have key := DenL.ow (ρ := ρ) (I := I) (w := w) id τ (off + l) (h - l) (if (ρ id).cap - off.toNat = l.toNat then ad else ad.map (·.add (l.toNat * τ.size))) (by omega) (by omega) (by omega)
    (by unfold okLen at *; omega) (by
      by_cases hc : (ρ id).cap - off.toNat = l.toNat
      · right; omega
      · rw [if_neg hc]
        rcases h6 with rfl | h6
        · left
          simp only [Option.map_some, addr_add]
          rw [show (off + l).toNat = off.toNat + l.toNat from by omega, Nat.add_mul, Nat.add_assoc]
        · omega) .nil
  rw [show (h - l).toNat = h.toNat - l.toNat from by omega, show (ρ id).cap - (off + l).toNat = (ρ id).cap - off.toNat - l.toNat from by omega] at key
  exact key

theorem ok_slo (R : Rx ρ I s a w) {x : Operand} {xo : XO} {t e : TypeId} {τ : Ty} {ei : TypeInfo} {lo hi : Option Operand} {lx hx' : Option XO} (hx : ofOpd x = some xo)
    (hlo : lo.mapM ofOpd = some lx) (hhi : hi.mapM ofOpd = some hx') (ht : P.underlying t = some (.slice e)) (he : P.info? e = some ei) (hz : ei.size = τ.size) (ho : oo.op = .slice t x lo hi none) :
    R1ok P ((execOp a.eval oo).run P w) ρ I w s N (owner s oo.dst (.slo τ xo lx hx')) := by
  have h1 := R.ev hx
  simp only [owner]
  generalize s.ev xo = v at h1
  have go : ∀ {ad : Option Addr} {len cap : Nat} {l h : Option Int}, a.eval x = .slice ad len cap → optV (lo.map a.eval) l → optV (hi.map a.eval) h → 0 ≤ l.getD 0 → l.getD 0 ≤ h.getD len → h.getD len ≤ cap →
      (execOp a.eval oo).run P w = .ok (.value (.slice (if cap = (l.getD 0).toNat then ad else ad.map (·.add ((l.getD 0).toNat * τ.size))) ((h.getD len).toNat - (l.getD 0).toNat) (cap - (l.getD 0).toNat))) w := by
    intro ad len cap l h e1 hl hh h3 h4 h5
    simp only [execOp, ho, e1, Option.map_none]
    refine run_v ?_
    unfold Instr.sliceAt
    rw [Sem.run_bind' (run_underlying ht)]
    simp only
    unfold Instr.slice
    rw [Sem.run_bind' (run_underlying ht)]
    simp only
    rw [Sem.run_bind' (run_sliceBounds hl hh h3 h4 h5)]
    simp only
    rw [Sem.run_bind' (run_sizeOf he), hz]; rfl
  split <;> first | trivial | skip
  · rename_i τ' xs e2 e3
    split <;> first | trivial | skip
    rename_i hτ; subst hτ
    obtain ⟨ad, cap, e1, hl, hk, _⟩ := h1.sl
    have := go e1 (optV_n hlo R e2) (optV_n hhi R e3) (by simp) (by simp) (by simpa using hl)
    refine ⟨_, this, ?_⟩
    rw [e1] at h1
    have := slice_den h1 (l := 0) (h := xs.length) (Nat.zero_le _) (Nat.le_refl _)
    simpa using this
  · rename_i τ' xs k n e2 e3
    split <;> first | trivial | skip
    rename_i hτ; subst hτ
    rintro ⟨h0, hle⟩
    obtain ⟨ad, cap, e1, hl, hk, _⟩ := h1.sl
    rw [ln_def] at hle
    refine ⟨_, go e1 (optV_i hlo R e2) (optV_n hhi R e3) (by simpa using h0) (by simpa using hle) (by simpa using hl), ?_⟩
    rw [e1] at h1
    have := slice_den h1 (l := n.toNat) (h := xs.length) (by omega) (Nat.le_refl _)
    rw [dr_def]
    have e : List.take (xs.length - n.toNat) (xs.drop n.toNat) = xs.drop n.toNat := List.take_of_length_le (by rw [List.length_drop]; omega)
    simpa [e] using this
  · rename_i τ' xs k n e2 e3
    split <;> first | trivial | skip
    rename_i hτ; subst hτ
    rintro ⟨h0, hle⟩
    obtain ⟨ad, cap, e1, hl, hk, _⟩ := h1.sl
    rw [ln_def] at hle
    refine ⟨_, go e1 (optV_n hlo R e2) (optV_i hhi R e3) (by simp) (by simpa using h0) (by simp; omega), ?_⟩
    rw [e1] at h1
    have := slice_den h1 (l := 0) (h := n.toNat) (by omega) (by omega)
    rw [tk_def]
    simpa using this
  · rename_i τ' xs k n k' m e2 e3
    split <;> first | trivial | skip
    rename_i hτ; subst hτ
    rintro ⟨h0, h01, hle⟩
    obtain ⟨ad, cap, e1, hl, hk, _⟩ := h1.sl
    rw [ln_def] at hle
    refine ⟨_, go e1 (optV_i hlo R e2) (optV_i hhi R e3) (by simpa using h0) (by simpa using h01) (by simp; omega), ?_⟩
    rw [e1] at h1
    have := slice_den h1 (l := n.toNat) (h := m.toNat) (by omega) (by omega)
    rw [dr_def, tk_def, List.drop_take]
    simpa using this
  · rename_i id τ' off len k n e2 e3
    split <;> first | trivial | skip
    rename_i hτ; subst hτ
    rintro ⟨h0, hle⟩
    obtain ⟨ad, e1, h3, h4, h5, hk, _⟩ := h1.ow
    refine ⟨_, go e1 (optV_i hlo R e2) (optV_n hhi R e3) (by simpa using h0) (by simp; omega) (by simp; omega), ?_⟩
    rw [e1] at h1
    have e : max len 0 = len := by omega
    rw [adI_def, sbI_def]; simpa [e] using slice_den_ow h1 (l := n) (h := len) h0 hle (Int.le_refl _)
  · rename_i id τ' off len k n e2 e3
    split <;> first | trivial | skip
    rename_i hτ; subst hτ
    rintro ⟨h0, hle⟩
    obtain ⟨ad, e1, h3, h4, h5, hk, _⟩ := h1.ow
    refine ⟨_, go e1 (optV_n hlo R e2) (optV_i hhi R e3) (by simp) (by simpa using h0) (by simp; omega), ?_⟩
    rw [e1] at h1
    have := slice_den_ow h1 (l := 0) (h := n) (by omega) h0 hle
    simpa using this
  · rename_i id τ' off len k n k' m e2 e3
    split <;> first | trivial | skip
    rename_i hτ; subst hτ
    rintro ⟨h0, h01, hle⟩
    obtain ⟨ad, e1, h3, h4, h5, hk, _⟩ := h1.ow
    refine ⟨_, go e1 (optV_i hlo R e2) (optV_i hhi R e3) (by simpa using h0) (by simpa using h01) (by simp; omega), ?_⟩
    rw [e1] at h1
    rw [adI_def, sbI_def]; simpa using slice_den_ow h1 (l := n) (h := m) h0 h01 hle
end
end GoX
/- Loads; bytes to strings; the rest. -/
set_option autoImplicit false
namespace GoX
open Go

section
variable {P : Program} {ρ : Nat → Place} {I : Nat → Prop} {s : St} {a : Go.Act} {w : World} {N : Nat → Bool} {oo : Oper}

theorem ok_mkfn (R : Rx ρ I s a w) {f : FuncId} {caps : Array Operand} {xs : List XO} (hx : caps.toList.mapM ofOpd = some xs) (ho : oo.op = .makeFunc (.func f) #[] caps)
    (hj : ∀ x ∈ xs, ∀ cs, s.ev x ≠ .agg cs ∧ s.ev x ≠ .tup cs ∧ s.ev x ≠ .junk) :
    R1ok P ((execOp a.eval oo).run P w) ρ I w s N (.ok [] (.fn f (xs.map s.ev))) := by
  have key : ∀ (os : List Operand) (xs : List XO), os.mapM ofOpd = some xs → (∀ x ∈ xs, ∀ cs, s.ev x ≠ .agg cs ∧ s.ev x ≠ .tup cs ∧ s.ev x ≠ .junk) → DenL ρ I w (xs.map s.ev) (os.map a.eval) := by
    intro os
    induction os with
    | nil => intro xs h _; simp at h; subst h; exact .nil
    | cons o os ih =>
      intro xs h hj
      rw [List.mapM_cons] at h
      simp only [bind, Option.bind_eq_some_iff, pure, Option.some.injEq] at h
      obtain ⟨x, hx, ys, hy, rfl⟩ := h
      have h1 := R.ev hx
      have h2 := ih ys hy (fun y hy => hj y (List.mem_cons_of_mem _ hy))
      have h3 := hj x (List.mem_cons_self ..)
      have h4 : DenL ρ I w [s.ev x] [a.eval o] := by
        generalize s.ev x = v at h1 h3
        cases v <;> first
          | exact h1
          | (exact absurd rfl (h3 _).1)
          | (exact absurd rfl (h3 _).2.1)
          | (exact absurd rfl (h3 []).2.2)
      exact h4.cons_join h2
  refine ⟨.func (.func f) #[] (caps.map a.eval), ?_, ?_⟩
  · simp only [execOp, ho, Instr.makeFunc]
    refine run_v ?_
    rw [Array.map_empty]
    rfl
  · have h5 := key caps.toList xs hx hj
    have := DenL.fn (ρ := ρ) (I := I) (w := w) f _ _ h5 .nil
    have e : (List.map a.eval caps.toList).toArray = caps.map a.eval := by
      apply Array.toList_inj.1; simp
    rw [e] at this
    exact this

theorem ok_mn (R : Rx ρ I s a w) {x : Operand} {ys : List Operand} {xo : XO} {yo : List XO} {ts : Array TypeId} (hx : ofOpd x = some xo) (hy : ys.mapM ofOpd = some yo)
    (ho : oo.op = .call { callee := .builtin .min, args := (x :: ys).toArray, argTypes := ts }) :
    R1ok P ((execOp a.eval oo).run P w) ρ I w s N (owner s oo.dst (.mn xo yo)) := by
  have h1 := R.ev hx
  simp only [owner]
  generalize s.ev xo = v at h1
  split <;> first | trivial | skip
  rename_i k b hb
  split <;> first | trivial | skip
  rename_i k' c
  split <;> first | trivial | skip
  rename_i hk; subst hk
  obtain ⟨cs, hrun⟩ := run_builtin (P := P) (a := a) (w := w) ho
  rw [hrun]
  cases yo with
  | nil => cases hb
  | cons y1 yt =>
    cases yt with
    | cons _ _ => simp at hb
    | nil =>
    simp only [List.map_cons, List.map_nil, List.cons.injEq, and_true] at hb
    match ys, hy with
    | [], hy => simp at hy
    | [o], hy =>
      have hy : ofOpd o = some y1 := by
        rw [List.mapM_cons] at hy
        simp only [bind, Option.bind_eq_some_iff, pure, Option.some.injEq] at hy
        obtain ⟨z, hz, zs, hzs, he⟩ := hy
        injection he with h1 h2; rw [← h1]; exact hz
      have h2 := R.ev hy
      rw [hb] at h2
      refine ⟨.int k (mn2 c b), ?_, den_i ?_⟩
      · simp only [List.map_cons, List.map_nil, h1.i.1, h2.i.1]
        refine run_v ?_
        simp only [Builtin.min_, List.foldlM_cons, List.foldlM_nil, Builtin.min2, mn2_def]; rfl
      · rw [mn2_def]; split; exact h2.i.2; exact h1.i.2
    | o :: o' :: os, hy =>
      rw [List.mapM_cons] at hy
      simp only [bind, Option.bind_eq_some_iff, pure, Option.some.injEq] at hy
      obtain ⟨z, hz, zs, hzs, he⟩ := hy
      injection he with h1 h2; subst h2
      rw [List.mapM_cons] at hzs
      simp only [bind, Option.bind_eq_some_iff, pure, Option.some.injEq] at hzs
      obtain ⟨_, _, _, _, h⟩ := hzs; cases h

theorem ok_mx (R : Rx ρ I s a w) {x : Operand} {ys : List Operand} {xo : XO} {yo : List XO} {ts : Array TypeId} (hx : ofOpd x = some xo) (hy : ys.mapM ofOpd = some yo)
    (ho : oo.op = .call { callee := .builtin .max, args := (x :: ys).toArray, argTypes := ts }) :
    R1ok P ((execOp a.eval oo).run P w) ρ I w s N (owner s oo.dst (.mx xo yo)) := by
  have h1 := R.ev hx
  simp only [owner]
  generalize s.ev xo = v at h1
  split <;> first | trivial | skip
  rename_i k b hb
  split <;> first | trivial | skip
  rename_i k' c
  split <;> first | trivial | skip
  rename_i hk; subst hk
  obtain ⟨cs, hrun⟩ := run_builtin (P := P) (a := a) (w := w) ho
  rw [hrun]
  cases yo with
  | nil => cases hb
  | cons y1 yt =>
    cases yt with
    | cons _ _ => simp at hb
    | nil =>
    simp only [List.map_cons, List.map_nil, List.cons.injEq, and_true] at hb
    match ys, hy with
    | [], hy => simp at hy
    | [o], hy =>
      have hy : ofOpd o = some y1 := by
        rw [List.mapM_cons] at hy
        simp only [bind, Option.bind_eq_some_iff, pure, Option.some.injEq] at hy
        obtain ⟨z, hz, zs, hzs, he⟩ := hy
        injection he with h1 h2; rw [← h1]; exact hz
      have h2 := R.ev hy
      rw [hb] at h2
      refine ⟨.int k (mx2 c b), ?_, den_i ?_⟩
      · simp only [List.map_cons, List.map_nil, h1.i.1, h2.i.1]
        refine run_v ?_
        simp only [Builtin.max_, List.foldlM_cons, List.foldlM_nil, Builtin.max2, mx2_def]; rfl
      · rw [mx2_def]; split; exact h2.i.2; exact h1.i.2
    | o :: o' :: os, hy =>
      rw [List.mapM_cons] at hy
      simp only [bind, Option.bind_eq_some_iff, pure, Option.some.injEq] at hy
      obtain ⟨z, hz, zs, hzs, he⟩ := hy
      injection he with h1 h2; subst h2
      rw [List.mapM_cons] at hzs
      simp only [bind, Option.bind_eq_some_iff, pure, Option.some.injEq] at hzs
      obtain ⟨_, _, _, _, h⟩ := hzs; cases h

/-- a slice's content. -/
def Content (ρ : Nat → Place) (I : Nat → Prop) (w : World) (τ : Ty) (xs : List τ.den) (ad : Option Addr) : Prop :=
  xs = [] ∨ ∃ (blk off : Nat) (g : Nat → List Value), ad = some ⟨blk, off, none⟩ ∧ (∀ n (h : n < xs.length), DenL ρ I w (enc τ xs[n]) (g n)) ∧
    (∀ n, n < xs.length → cellsAt w blk (off + n * τ.size) (g n))

theorem elems_ok (R : Rx ρ I s a w) {τ : Ty} {v : V} {x : Value} {fp : List Nat} {p : Unit → Prop} {xs : List τ.den} (h : elems s τ v = some (fp, p, xs)) (hp : p ()) (hd : DenV ρ I w v x) :
    ∃ ad cap, x = .slice ad xs.length cap ∧ okLen xs.length ∧ Content ρ I w τ xs ad := by
  unfold elems at h
  split at h
  · injection h with h; injection h with _ h; injection h with _ h; subst h
    exact ⟨none, 0, hd.ns, Nat.zero_le _, .inl rfl⟩
  · split at h
    · rename_i τ' ys hτ
      subst hτ
      injection h with h; injection h with _ h; injection h with _ h; subst h
      obtain ⟨ad, cap, e1, hl, hk, hs⟩ := hd.sl
      refine ⟨ad, cap, e1, hk, ?_⟩
      rcases hs with hs | ⟨blk, off, g, h1, h2, h3, h4⟩
      · exact .inl hs
      · exact .inr ⟨blk, off, g, h1, h3, h4⟩
    · cases h
  · rename_i id τ' off n
    split at h
    · rename_i hτ; subst hτ
      split at h
      · rename_i τ'' zs hlk
        split at h
        · rename_i hτ; subst hτ
          injection h with h; injection h with h1 h; injection h with h2 h; subst h
          rw [← h2] at hp; simp only [ln_def] at hp
          obtain ⟨ad, e1, h3, h4, h5, hk, h6⟩ := hd.ow
          have hlen : (tk n (dr off zs)).length = n.toNat := by rw [tk_def, dr_def, List.length_take, List.length_drop]; omega
          refine ⟨ad, _, by rw [hlen]; exact e1, by rw [hlen]; exact hk, ?_⟩
          by_cases hz : n.toNat = 0
          · exact .inl (List.eq_nil_of_length_eq_zero (by rw [hlen]; exact hz))
          · right
            rcases R.heap.ok id _ hlk with ⟨_, rfl⟩ | ⟨h0, arr, T, fr, g, g1, g2, g3, g4, g5, g6, g7⟩
            · simp at hp; omega
            · rcases h6 with rfl | h6
              · refine ⟨_, _, fun m => g (off.toNat + m), rfl, ?_, ?_⟩
                · intro m hm
                  rw [hlen] at hm
                  have := g5 (off.toNat + m) (by omega)
                  have e : (tk n (dr off zs))[m]'(by rw [hlen]; exact hm) = zs[off.toNat + m]'(by omega) := by simp only [tk_def, dr_def]; simp
                  rw [e]; exact this
                · intro m hm
                  rw [hlen] at hm
                  have := g6 (off.toNat + m) (by omega)
                  rw [Nat.add_mul, ← Nat.add_assoc] at this
                  exact this
              · omega
        · cases h
      · cases h
    · cases h
  · cases h

theorem bytesOf_ok {xs : List Int} {blk off : Nat} {g : Nat → List Value} (hd : ∀ n (h : n < xs.length), DenL ρ I w (enc (.int .u8) xs[n]) (g n))
    (hc : ∀ n, n < xs.length → cellsAt w blk (off + n * 1) (g n)) :
    cellsAt w blk off (xs.map fun n => .int .u8 n) ∧ ∀ x ∈ xs, inR .u8 x := by
  have one : ∀ n (h : n < xs.length), g n = [.int .u8 xs[n]] ∧ inR .u8 xs[n] := by
    intro n h
    have := hd n h
    simp only [enc] at this
    generalize g n = l at this
    cases this with
    | i k x hr h' => cases h'; exact ⟨rfl, hr⟩
  constructor
  · intro j v hv
    rw [List.getElem?_map] at hv
    have hj : j < xs.length := by
      rcases Nat.lt_or_ge j xs.length with h | h
      · exact h
      · rw [List.getElem?_eq_none h] at hv; cases hv
    rw [List.getElem?_eq_getElem hj] at hv
    simp only [Option.map_some, Option.some.injEq] at hv
    have := hc j hj 0 v (by rw [(one j hj).1]; simp [hv])
    simpa using this
  · intro x hx
    obtain ⟨n, hn, rfl⟩ := List.getElem_of_mem hx
    exact (one n hn).2

theorem run_bytes {xs : List Int} : ∀ (b : ByteArray), (∀ x ∈ xs, inR .u8 x) →
    ∃ c : ByteArray, toInts c = toInts b ++ xs ∧ ∀ F : Value → ByteArray → Sem (ForInStep ByteArray), (∀ n r, F (.int .u8 n) r = pure (ForInStep.yield (r.push (UInt8.ofNat n.toNat)))) →
      (forIn (m := Sem) (xs.map fun n => Value.int .u8 n).toArray b F).run P w = .ok c w := by
  induction xs with
  | nil => intro b _; exact ⟨b, by simp, fun F _ => rfl⟩
  | cons x xs ih =>
    intro b hx
    have h1 := hx x (List.mem_cons_self ..)
    obtain ⟨c, he, hc⟩ := ih (b.push (UInt8.ofNat x.toNat)) (fun y hy => hx y (List.mem_cons_of_mem _ hy))
    refine ⟨c, ?_, ?_⟩
    · rw [he]
      have : toInts (b.push (UInt8.ofNat x.toNat)) = toInts b ++ [x] := by
        have hmin : IntKind.min .u8 = 0 := by decide
        have hmax : IntKind.max .u8 = 255 := by decide
        obtain ⟨l, r⟩ := h1
        unfold toInts
        simp [ByteArray.push]
        omega
      rw [this]; simp
    · intro F hF
      rw [← hc F hF]
      simp only [List.map_cons, List.forIn_toArray, List.forIn_cons]
      rw [hF, Sem.run_bind' run_pure]

theorem ok_b2s (R : Rx ρ I s a w) {x : Operand} {xo : XO} {t u e : TypeId} (hx : ofOpd x = some xo) (ho : oo.op = .convert t u x)
    (ht : P.underlying t = some (.slice e)) (hu : P.underlying u = some .string) (he : P.underlying e = some (.int .u8)) :
    R1ok P ((execOp a.eval oo).run P w) ρ I w s N (owner s oo.dst (.b2s xo)) := by
  have h1 := R.ev hx
  simp only [owner]
  split <;> first | trivial | skip
  rename_i fp p xs hel
  intro hp
  obtain ⟨ad, cap, e1, hk, hc⟩ := elems_ok R hel hp h1
  have conv : (convert t u (a.eval x)).run P w = (Conv.bytesToString (a.eval x)).run P w := by
    unfold convert
    rw [Sem.run_bind' (run_underlying ht), Sem.run_bind' (run_underlying hu), e1]
    simp only
    rw [Sem.run_bind' (run_underlying he)]
  have fin : ∀ c : ByteArray, (Conv.bytesToString (a.eval x)).run P w = .ok (.string c) w → toInts c = xs → R1ok P ((execOp a.eval oo).run P w) ρ I w s N (.ok fp (.s xs)) := by
    intro c hc he
    refine ⟨.string c, ?_, ?_⟩
    · simp only [execOp, ho]
      exact run_v (by rw [conv]; exact hc)
    · subst he
      exact den_s (by rw [toInts_length] at hk; exact hk)
  rcases hc with rfl | ⟨blk, off, g, rfl, hd, hc⟩
  · refine fin .empty ?_ (by rfl)
    rw [e1]
    cases ad with
    | none => rfl
    | some ad =>
      unfold Conv.bytesToString
      simp only [List.length_nil, loadCells, loadCellsFrom]
      rfl
  · obtain ⟨hcell, hr⟩ := bytesOf_ok hd hc
    obtain ⟨c, he, hrun⟩ := run_bytes (P := P) (w := w) .empty hr
    refine fin c ?_ (by rw [he]; rfl)
    rw [e1]
    unfold Conv.bytesToString
    simp only
    rw [Sem.run_bind' (run_loadCells hcell (by simp))]
    rw [Sem.run_bind' (hrun _ (fun _ _ => rfl))]; rfl
end
end GoX
/- Loads, and operations that make or change memory. -/
set_option autoImplicit false
namespace GoX
open Go

section
variable {P : Program} {ρ : Nat → Place} {I : Nat → Prop} {s : St} {a : Go.Act} {w : World} {N : Nat → Bool} {oo : Oper}

theorem takeF_len {cs ds : List V} {n : Nat} (h : takeF cs n = some ds) : wdL ds = n := by
  induction cs generalizing n ds with
  | nil => cases n with
    | zero => simp [takeF] at h; subst h; rfl
    | succ n => simp [takeF] at h
  | cons c cs ih => cases n with
    | zero => simp [takeF] at h; subst h; rfl
    | succ n =>
      simp only [takeF] at h
      split at h
      · simp only [Option.map_eq_some_iff] at h
        obtain ⟨es, he, rfl⟩ := h
        have := ih he
        simp only [wdL]; omega
      · cases h

theorem cellsAt_left {b off : Nat} {us ws : List Value} (h : cellsAt w b off (us ++ ws)) : cellsAt w b off us := by
  intro j v hv
  exact h j v (by rw [List.getElem?_append_left (by
    rcases Nat.lt_or_ge j us.length with h | h
    · exact h
    · rw [List.getElem?_eq_none h] at hv; cases hv)]; exact hv)

theorem cellsAt_right {b off : Nat} {us ws : List Value} (h : cellsAt w b off (us ++ ws)) : cellsAt w b (off + us.length) ws := by
  intro j v hv
  have := h (us.length + j) v (by rw [List.getElem?_append_right (by omega)]; simpa using hv)
  rwa [← Nat.add_assoc] at this

theorem cellsAt_whole {b : Nat} {vs : List Value} {T : TypeId} {fr : Nat × Nat} (h : w.heap[b]? = some (.cells vs.toArray T fr)) : cellsAt w b 0 vs :=
  cellsAt_of h (fun j v hv => by simpa using hv)

/-- a part of a part. -/
theorem part_ok {cs ds : List V} {vs : List Value} {b off sub size : Nat} (hd : (dropF cs sub).bind (takeF · size) = some ds) (h : DenL ρ I w cs vs) (hc : cellsAt w b off vs) :
    DenL ρ I w ds ((vs.drop sub).take size) ∧ ((vs.drop sub).take size).length = size ∧ cellsAt w b (off + sub) ((vs.drop sub).take size) := by
  rw [Option.bind_eq_some_iff] at hd
  obtain ⟨es, he1, he2⟩ := hd
  have h2 := takeF_ok he2 (dropF_ok he1 h)
  exact ⟨h2, by rw [h2.length]; exact takeF_len he2, cellsAt_take (cellsAt_drop hc)⟩

/-- an element of an array that lies in a block. -/
theorem arr_ok {cs rest : List V} {vs : List Value} {b off : Nat} {τ : Ty} {n ix : Nat} {xs : List τ.den} (hd : dropF cs off = some (.ar τ n xs :: rest)) (h : DenL ρ I w cs vs)
    (hc : cellsAt w b 0 vs) (hix : ix < n) :
    xs.length = n ∧ ∃ (hx : ix < xs.length) (us : List Value), DenL ρ I w (enc τ xs[ix]) us ∧ cellsAt w b (off + ix * τ.size) us := by
  have h1 := dropF_ok hd h
  obtain ⟨us, ws, e, hl, h2, h3⟩ := h1.cons_one
  have h4 : cellsAt w b off us := by
    have := cellsAt_drop (n := off) hc
    rw [e, Nat.zero_add] at this
    exact cellsAt_left this
  cases h2 with
  | ar τ xs us h5 h6 =>
    cases h6
    rw [List.append_nil] at h4
    exact ⟨rfl, hix, _, flat_drop h5 hix, cellsAt_take (cellsAt_drop h4)⟩

theorem run_loadVar {t : TypeId} {d : TypeDesc} {ti : TypeInfo} {blk off : Nat} {vs : List Value} {cs : List V} {v : V} (hd : P.underlying t = some d) (hi : P.info? t = some ti)
    (ho : ofCells (aggB d) cs = some v) (hc : DenL ρ I w cs vs) (hl : vs.length = ti.size) (hat : cellsAt w blk off vs) :
    ∃ x, (loadVar t ⟨blk, off, none⟩).run P w = .ok x w ∧ DenV ρ I w v x := by
  obtain ⟨h1, h2⟩ := ofCells_ok ho hc
  unfold loadVar
  cases hb : aggB d with
  | true =>
    refine ⟨_, ?_, h1 hb⟩
    rw [Sem.run_bind' (run_isAgg hd)]
    simp only [hb, if_true]
    rw [Sem.run_bind' (run_sizeOf hi), Sem.run_bind' (run_loadCells hat hl)]; rfl
  | false =>
    obtain ⟨x, hx, hdx⟩ := h2 hb
    refine ⟨x, ?_, hdx⟩
    rw [Sem.run_bind' (run_isAgg hd)]
    simp only [hb, if_false, Bool.false_eq_true]
    subst hx
    exact run_load (cellsAt_cons hat).1

theorem ok_ld (R : Rx ρ I s a w) {x : Operand} {xo : XO} {t : TypeId} {d : TypeDesc} {ti : TypeInfo} (hx : ofOpd x = some xo) (hd : P.underlying t = some d) (hi : P.info? t = some ti)
    (ho : oo.op = .load t x) : R1ok P ((execOp a.eval oo).run P w) ρ I w s N (owner s oo.dst (.ld xo ti.size (aggB d))) := by
  have h1 := R.ev hx
  simp only [owner]
  generalize s.ev xo = v at h1
  have go : ∀ {blk off : Nat} {vs : List Value} {cs : List V} {v : V}, a.eval x = .pointer (some ⟨blk, off, none⟩) → ofCells (aggB d) cs = some v → DenL ρ I w cs vs → vs.length = ti.size → cellsAt w blk off vs →
      ∃ y, (execOp a.eval oo).run P w = .ok (.value y) w ∧ DenV ρ I w v y := by
    intro blk off vs cs v e1 h2 h3 h4 h5
    obtain ⟨y, hr, hy⟩ := run_loadVar (P := P) hd hi h2 h3 h4 h5
    refine ⟨y, ?_, hy⟩
    simp only [execOp, ho, e1]
    refine run_v ?_
    unfold Instr.loadAt
    rw [Sem.run_bind' run_sureAddr]; exact hr
  split <;> first | trivial | skip
  · rename_i id off
    split <;> first | trivial | skip
    rename_i cs hlk
    split <;> first | trivial | skip
    rename_i ds hds
    split <;> first | trivial | skip
    rename_i u hu
    obtain ⟨vs, T, fr, g1, g2, g3⟩ := R.heap.ok id _ hlk
    obtain ⟨h2, h3, h4⟩ := part_ok hds g2 (cellsAt_whole g1)
    exact go (by rw [Nat.zero_add]; exact h1.pt) hu h2 h3 h4
  · rename_i id off τ n ix sub
    split <;> first | trivial | skip
    rename_i cs hlk
    split <;> first | trivial | skip
    rename_i τ' n' xs rest hdr
    split <;> first | trivial | skip
    rename_i hh
    obtain ⟨rfl, rfl⟩ := hh
    split <;> first | trivial | skip
    rename_i ds hds
    split <;> first | trivial | skip
    rename_i u hu
    obtain ⟨e1, h0, hlt⟩ := h1.pa
    obtain ⟨vs, T, fr, g1, g2, g3⟩ := R.heap.ok id _ hlk
    obtain ⟨hn, hix, us, h5, h6⟩ := arr_ok hdr g2 (cellsAt_whole g1) hlt
    rw [gt_def, getD_eq hix] at hds
    obtain ⟨h2, h3, h4⟩ := part_ok hds h5 h6
    exact go e1 hu h2 h3 h4
  · rename_i id τ ix sub
    split <;> first | trivial | skip
    rename_i τ' xs hlk
    split <;> first | trivial | skip
    rename_i hτ; subst hτ
    split <;> first | trivial | skip
    rename_i ds hds
    split <;> first | trivial | skip
    rename_i u hu
    intro hlt
    rw [ln_def] at hlt
    obtain ⟨e1, h0⟩ := h1.pr
    have hix : ix.toNat < xs.length := by omega
    rcases R.heap.ok id _ hlk with ⟨_, rfl⟩ | ⟨_, arr, T, fr, g, g1, g2, g3, g4, g5, g6, g7⟩
    · simp at hix
    · rw [gt_def, getD_eq hix] at hds
      obtain ⟨h2, h3, h4⟩ := part_ok hds (g5 _ hix) (g6 _ hix)
      exact go e1 hu h2 h3 h4
  · rename_i cs
    split <;> first | trivial | skip
    rename_i ds hds
    split <;> first | trivial | skip
    rename_i u hu
    obtain ⟨ws, blk, off, e1, hb, h2, h3⟩ := h1.pi
    obtain ⟨h4, h5, h6⟩ := part_ok (sub := 0) (size := ti.size) (ds := ds) (by cases cs <;> exact hds) h2 h3
    exact go e1 hu h4 h5 h6

theorem ok_iap (R : Rx ρ I s a w) {x i : Operand} {xo io : XO} {t e : TypeId} {τ : Ty} {ei : TypeInfo} {m : Nat} (hx : ofOpd x = some xo) (hi : ofOpd i = some io)
    (ht : P.underlying t = some (.array m e)) (he : P.info? e = some ei) (hz : ei.size = τ.size) (ho : oo.op = .indexAddr t x i) :
    R1ok P ((execOp a.eval oo).run P w) ρ I w s N (owner s oo.dst (.iap m τ xo io)) := by
  have h1 := R.ev hx
  have h2 := R.ev hi
  simp only [owner]
  generalize s.ev xo = v at h1
  generalize s.ev io = u at h2
  split <;> first | trivial | skip
  case h_2 τ' n' xs rest k n =>
    split <;> first | trivial | skip
    rename_i hh
    obtain ⟨rfl, rfl⟩ := hh
    rintro ⟨h0, hlt⟩
    obtain ⟨ws, blk, off, e1, hb, hd, hc⟩ := h1.pi
    obtain ⟨us, vs, rfl, hl, h4, h5⟩ := hd.cons_one
    cases h4 with
    | ar τ xs us h6 h7 =>
      cases h7
      rw [List.append_nil] at hc
      have hix : n.toNat < xs.length := by omega
      have hul : us.length = xs.length * τ.size := by rw [h6.length, wdL_flat]
      refine ⟨.pointer (some ⟨blk, off + n.toNat * τ.size, none⟩), ?_, ?_⟩
      · simp only [execOp, ho, e1, h2.i.1]
        refine run_v ?_
        unfold Instr.indexAt
        rw [Sem.run_bind' run_asIntOf]
        simp only
        rw [Sem.run_bind' (run_underlying ht)]
        simp only
        rw [Sem.run_bind' run_sureAddr, Sem.run_bind' run_pure, Sem.run_bind' (run_underlying ht)]
        simp only [h0, hlt, and_self, if_true]
        rw [Sem.run_bind' (run_sizeOf he), hz, addr_add]; rfl
      · rw [gt_def, getD_eq hix]
        exact DenL.pi _ _ _ _ hb (flat_drop h6 hix) (cellsAt_take (cellsAt_drop (cellsAt_left hc))) .nil
  rename_i id off k n
  rintro ⟨h0, hlt⟩
  refine ⟨.pointer (some ⟨(ρ id).blk, off + n.toNat * τ.size, none⟩), ?_, ?_⟩
  · simp only [execOp, ho, h1.pt, h2.i.1]
    refine run_v ?_
    unfold Instr.indexAt
    rw [Sem.run_bind' run_asIntOf]
    simp only
    rw [Sem.run_bind' (run_underlying ht)]
    simp only
    rw [Sem.run_bind' run_sureAddr, Sem.run_bind' run_pure, Sem.run_bind' (run_underlying ht)]
    simp only [h0, hlt, and_self, if_true]
    rw [Sem.run_bind' (run_sizeOf he), hz, addr_add]; rfl
  · have := DenL.pa (ρ := ρ) (I := I) (w := w) id off τ m n 0 h0 (by omega) .nil
    rwa [Nat.add_zero] at this
end
end GoX
/- Operations that make memory: new blocks and rows. -/
set_option autoImplicit false
namespace GoX
open Go

section
variable {P : Program} {ρ : Nat → Place} {I : Nat → Prop} {s : St} {a : Go.Act} {w : World} {N : Nat → Bool} {oo : Oper}

theorem lk_one {α : Type} {id j : Nat} {x y : α} (h : lk [(id, x)] j = some y) : j = id ∧ y = x := by
  simp only [lk] at h
  split at h
  · injection h with h; exact ⟨by omega, h.symm⟩
  · cases h

theorem part_none {h : Hf} : Hf.part h (([] : List Nat).contains) = fun _ => none := by
  funext id; simp [Hf.part]

theorem own_none {ρ : Nat → Place} {b : Nat} : ¬ Own ρ (fun _ => none) b := by
  rintro ⟨id, o, h, _⟩; cases h

def rhoNew (ρ : Nat → Place) (N : Nat → Bool) (p : Place) : Nat → Place := fun id => if N id then p else ρ id

theorem rhoNew_old {N : Nat → Bool} {p : Place} : ∀ id, N id = false → rhoNew ρ N p id = ρ id := by
  intro id h; simp [rhoNew, h]

theorem push_old {o : Obj} {w' : World} (hw : w'.heap = w.heap.push o) {b : Nat} (h : b < w.heap.size) : w'.heap[b]? = w.heap[b]? := by
  rw [hw, Array.getElem?_push, if_neg (Nat.ne_of_lt h)]

theorem push_new {o : Obj} {w' : World} (hw : w'.heap = w.heap.push o) : w'.heap[w.heap.size]? = some o := by
  rw [hw, Array.getElem?_push, if_pos rfl]

/-- one new object, over no part of the heap. -/
theorem new_obj {h : Hf} {id : Nat} {x : XObj} {o : Obj} {cap : Nat} {w' : World} (hid : N id = true) (hG : Glob I w) (hlt : ∀ b, I b → b < w.heap.size) (hw' : w'.heap = w.heap.push o) (hr : SameRest w w')
    (hok : ObjOk (rhoNew ρ N ⟨w.heap.size, 0, cap⟩) I w' ⟨w.heap.size, 0, cap⟩ x) :
    RH (rhoNew ρ N ⟨w.heap.size, 0, cap⟩) I w' (lk [(id, x)]) ∧
      Loc ρ I w h (rhoNew ρ N ⟨w.heap.size, 0, cap⟩) I w' (lk [(id, x)]) N := by
  have hp : rhoNew ρ N ⟨w.heap.size, 0, cap⟩ id = ⟨w.heap.size, 0, cap⟩ := by simp [rhoNew, hid]
  refine ⟨⟨hG.mono (fun _ h => h) (fun b hb => push_old hw' (hlt b hb)), ?_, ?_, ?_, ?_⟩, ⟨?_, ?_, ?_, ?_, ?_, ?_, ?_⟩⟩
  · intro j y hj
    obtain ⟨rfl, rfl⟩ := lk_one hj
    rw [hp]; exact hok
  · intro j y j' y' hj hj' hne
    obtain ⟨rfl, rfl⟩ := lk_one hj
    obtain ⟨rfl, rfl⟩ := lk_one hj'
    exact absurd rfl hne
  · intro j y hj _ hI
    obtain ⟨rfl, rfl⟩ := lk_one hj
    rw [hp] at hI
    have := hlt _ hI
    simp at this
  · intro b hb
    have := hlt b hb
    rw [hw']; simp; omega
  · intro b hb _
    exact push_old hw' hb
  · rw [hw']; simp
  · exact fun b h => h
  · exact fun b h => .inl h
  · rintro b ⟨j, y, hj, _, rfl⟩
    obtain ⟨rfl, rfl⟩ := lk_one hj
    rw [hp]; exact .inr (Nat.le_refl _)
  · exact rhoNew_old
  · exact hr

theorem new_cells {h : Hf} {id T : Nat} {cs : List V} {vs : List Value} {w' : World} (hid : N id = true) (hG : Glob I w) (hlt : ∀ b, I b → b < w.heap.size) (hw' : w'.heap = w.heap.push (.cells vs.toArray T)) (hr : SameRest w w')
    (hd : DenL ρ I w cs vs) (hn : noL N cs = true) :
    ∃ ρ', RH ρ' I w' (lk [(id, .cells cs)]) ∧ Loc ρ I w h ρ' I w' (lk [(id, .cells cs)]) N ∧
      DenV ρ' I w' (.pt id 0) (.pointer (some ⟨w.heap.size, 0, none⟩)) := by
  have hw : ∀ b, I b → w'.heap[b]? = w.heap[b]? := fun b hb => push_old hw' (hlt b hb)
  obtain ⟨h1, h2⟩ := new_obj (ρ := ρ) (h := h) (id := id) (x := .cells cs) (o := .cells vs.toArray T) (cap := 0) hid hG hlt hw' hr
    ⟨vs, T, (0, 0), push_new hw', hd.mono (fun _ h => h) hw rhoNew_old hn, fun j _ hj => by omega⟩
  refine ⟨_, h1, h2, ?_⟩
  have hp : (rhoNew ρ N ⟨w.heap.size, 0, 0⟩ id).blk = w.heap.size := by simp [rhoNew, hid]
  have := DenL.pt (ρ := rhoNew ρ N ⟨w.heap.size, 0, 0⟩) (I := I) (w := w') id 0 .nil
  rw [hp] at this
  exact this

theorem row_ok {τ : Ty} {xs : List τ.den} {vs sp : List Value} {T : TypeId} {fr : Nat × Nat} {b cap : Nat} (hb : w.heap[b]? = some (.cells (vs ++ sp).toArray T fr)) (hu : unfr fr (vs ++ sp).length) (hT : okTy τ T = true)
    (hd : DenL ρ I w (xs.flatMap (enc τ)) vs) (hl : xs.length ≤ cap) (hs : cap * τ.size ≤ (vs ++ sp).length) : ObjOk ρ I w ⟨b, 0, cap⟩ (.row τ xs) := by
  by_cases hz : cap = 0
  · left
    exact ⟨hz, List.eq_nil_of_length_eq_zero (by omega)⟩
  · right
    refine ⟨Nat.pos_of_ne_zero hz, _, T, fr, fun n => (vs.drop (n * τ.size)).take τ.size, hb, by simpa using hu, by simpa using hs, hl, fun n hn => flat_drop hd hn, ?_, hT⟩
    intro n hn
    have h1 := cellsAt_left (cellsAt_whole hb)
    have := cellsAt_take (n := τ.size) (cellsAt_drop (n := n * τ.size) h1)
    exact this

theorem new_row {h : Hf} {id T : Nat} {τ : Ty} {xs : List τ.den} {vs sp : List Value} {fr : Nat × Nat} {cap : Nat} {w' : World} (hid : N id = true) (hG : Glob I w) (hlt : ∀ b, I b → b < w.heap.size)
    (hw' : w'.heap = w.heap.push (.cells (vs ++ sp).toArray T fr)) (hr : SameRest w w')
    (hd : DenL ρ I w (xs.flatMap (enc τ)) vs) (hT : okTy τ T = true) (hu : unfr fr (vs ++ sp).length) (hl : xs.length ≤ cap) (hs : cap * τ.size ≤ (vs ++ sp).length) (hk : okLen xs.length) :
    ∃ ρ', RH ρ' I w' (lk [(id, .row τ xs)]) ∧ Loc ρ I w h ρ' I w' (lk [(id, .row τ xs)]) N ∧
      DenV ρ' I w' (.ow id τ 0 (ln xs)) (.slice (some ⟨w.heap.size, 0, none⟩) xs.length cap) := by
  have hw : ∀ b, I b → w'.heap[b]? = w.heap[b]? := fun b hb => push_old hw' (hlt b hb)
  obtain ⟨h1, h2⟩ := new_obj (ρ := ρ) (h := h) (id := id) (x := .row τ xs) (o := .cells (vs ++ sp).toArray T fr) (cap := cap) hid hG hlt hw' hr
    (row_ok (push_new hw') hu hT (hd.mono (fun _ h => h) hw rhoNew_old (noL_flat _ _ _)) hl hs)
  refine ⟨_, h1, h2, ?_⟩
  have hp : rhoNew ρ N ⟨w.heap.size, 0, cap⟩ id = ⟨w.heap.size, 0, cap⟩ := by simp [rhoNew, hid]
  have := DenL.ow (ρ := rhoNew ρ N ⟨w.heap.size, 0, cap⟩) (I := I) (w := w') id τ 0 (ln xs) (some ⟨w.heap.size, 0, none⟩) (by omega) (by rw [ln_def]; omega)
    (by rw [hp, ln_def]; simp; exact hl) (by rw [ln_def]; simpa using hk) (by rw [hp]; left; simp) .nil
  rw [hp, ln_def] at this
  rw [ln_def]
  exact (show DenL _ _ _ [_] [_] by simpa using this)

/-! the operations -/
def flat1 : V → Option (List Value)
  | .b x => some [.bool x]
  | .i k n => if okInt k n then some [.int k n] else none
  | .s [] => some [.string .empty]
  | .f n => some [.float .f64 n]
  | .np => some [.pointer none]
  | .ni => some [.nilIface]
  | .nf => some [.nilFunc]
  | .ns => some [.slice none 0 0]
  | .nm => some [.map none]
  | .sl _ [] => some [.slice none 0 0]
  | _ => none
def flatL1 : List V → Option (List Value)
  | [] => some []
  | c :: cs => match flat1 c, flatL1 cs with
    | some us, some vs => some (us ++ vs)
    | _, _ => none
def flatL : List V → Option (List Value)
  | [] => some []
  | .ar τ n xs :: cs => if xs.length = n then match flatL1 (xs.flatMap (enc τ)), flatL cs with
      | some us, some vs => some (us ++ vs)
      | _, _ => none
    else none
  | c :: cs => match flat1 c, flatL cs with
    | some us, some vs => some (us ++ vs)
    | _, _ => none

theorem flat1_ok {c : V} {us : List Value} (h : flat1 c = some us) : DenL ρ I w [c] us ∧ ∀ N, c.no N = true := by
  unfold flat1 at h
  split at h <;> first
    | (split at h
       · rename_i hk
         injection h with h; subst h
         simp only [okInt, Bool.and_eq_true, decide_eq_true_eq] at hk
         exact ⟨.i _ _ hk .nil, fun _ => rfl⟩
       · cases h)
    | (injection h with h; subst h
       first
         | exact ⟨.s .empty (Nat.zero_le _) .nil, fun _ => rfl⟩
         | exact ⟨by constructor; exact .nil, fun _ => rfl⟩)
    | cases h

theorem flatL1_ok {cs : List V} {us : List Value} (h : flatL1 cs = some us) : DenL ρ I w cs us ∧ ∀ N, noL N cs = true := by
  induction cs generalizing us with
  | nil => simp [flatL1] at h; subst h; exact ⟨.nil, fun _ => rfl⟩
  | cons c cs ih =>
    simp only [flatL1] at h
    split at h
    · rename_i u v h1 h2
      injection h with h; subst h
      obtain ⟨h3, h4⟩ := flat1_ok (ρ := ρ) (I := I) (w := w) h1
      obtain ⟨h5, h6⟩ := ih h2
      exact ⟨h3.cons_join h5, fun N => by simp [noL, h4 N, h6 N]⟩
    · cases h

theorem flatL_ok {cs : List V} {us : List Value} (h : flatL cs = some us) : DenL ρ I w cs us ∧ ∀ N, noL N cs = true := by
  induction cs generalizing us with
  | nil => simp [flatL] at h; subst h; exact ⟨.nil, fun _ => rfl⟩
  | cons c cs ih =>
    unfold flatL at h
    split at h
    · cases ‹_ = []›
    · rename_i τ n xs cs' he
      injection he with he1 he2; subst he1; subst he2
      split at h
      · rename_i hn; subst hn
        split at h
        · rename_i u v h1 h2
          injection h with h; subst h
          obtain ⟨h3, _⟩ := flatL1_ok (ρ := ρ) (I := I) (w := w) h1
          obtain ⟨h5, h6⟩ := ih h2
          exact ⟨.ar τ xs u h3 h5, fun N => by simp [noL, V.no, h6 N]⟩
        · cases h
      · cases h
    · rename_i c' cs' _ he
      injection he with he1 he2; subst he1; subst he2
      split at h
      · rename_i u v h1 h2
        injection h with h; subst h
        obtain ⟨h3, h4⟩ := flat1_ok (ρ := ρ) (I := I) (w := w) h1
        obtain ⟨h5, h6⟩ := ih h2
        exact ⟨h3.cons_join h5, fun N => by simp [noL, h4 N, h6 N]⟩
      · cases h

/-- the zero cells of a type are what the program has. -/
def zeroOk (P : Program) (t : TypeId) (cs : List V) : Prop := ∃ i z, P.info? t = some i ∧ i.zero = some z ∧ flatL cs = some z.cells.toList

theorem ok_new (R : Rx ρ I s a w) {t : TypeId} {cs : List V} {d : Nat} (hz : zeroOk P t cs) (hN : N (nid d) = true) (hdst : oo.dst = some d) (ho : oo.op = .alloc t) :
    R1ok P ((execOp a.eval oo).run P w) ρ I w s N (owner s oo.dst (.new cs)) := by
  simp only [owner, hdst]
  obtain ⟨i, z, hi, hz, hf⟩ := hz
  obtain ⟨hd, hn⟩ := flatL_ok (ρ := ρ) (I := I) (w := w) hf
  obtain ⟨ρ', h1, h2, h3⟩ := new_cells (h := Hf.part (lk s.h) ([] : List Nat).contains) (T := t) (w' := w.alloc (.cells z.cells.toList.toArray t)) hN R.heap.glob R.heap.lt rfl ⟨rfl, rfl, rfl⟩ hd (hn N)
  refine ⟨ρ', I, _, _, _, ?_, .inl rfl, h1, h2, h3⟩
  simp only [execOp, ho]
  refine run_v' ?_
  unfold Instr.alloc
  rw [Sem.run_bind' (run_zeroValue hi hz)]
  simp only [newVar, newRow, newObj]
  rfl

theorem ok_box (R : Rx ρ I s a w) {t : TypeId} {x : Operand} {xo : XO} {d : Nat} (hx : ofOpd x = some xo) (hcl : (s.ev xo).no N = true) (hN : N (nid d) = true) (hdst : oo.dst = some d) (ho : oo.op = .box t x) :
    R1ok P ((execOp a.eval oo).run P w) ρ I w s N (owner s oo.dst (.box xo)) := by
  have h1 := R.ev hx
  simp only [owner, hdst]
  split <;> first | trivial | skip
  rename_i d' cs hd' hcs
  injection hd' with hd'; subst hd'
  have hd := vcells_ok hcs h1
  have hn : noL N cs = true := by
    generalize s.ev xo = v at hcs hcl
    cases v <;> simp only [vcells, Option.some.injEq, reduceCtorEq] at hcs <;> subst hcs <;> first
      | rfl
      | simpa [noL, V.no] using hcl
  obtain ⟨ρ', h1, h2, h3⟩ := new_cells (h := Hf.part (lk s.h) ([] : List Nat).contains) (T := t) (w' := w.alloc (.cells (a.eval x).cells.toList.toArray t)) hN R.heap.glob R.heap.lt rfl ⟨rfl, rfl, rfl⟩ hd hn
  refine ⟨ρ', I, _, _, _, ?_, .inl rfl, h1, h2, h3⟩
  simp only [execOp, ho]
  refine run_v' ?_
  simp only [Instr.box, newVar, newRow, newObj]
  rfl
end
end GoX
/- Stores. -/
set_option autoImplicit false
namespace GoX
open Go

theorem overl_len {vs us : List Value} {n : Nat} (h : n + us.length ≤ vs.length) : (overl vs n us).length = vs.length := by
  unfold overl; simp; omega

theorem overl_get {vs us : List Value} {n j : Nat} (h : n + us.length ≤ vs.length) :
    (overl vs n us)[j]? = if j < n then vs[j]? else if j < n + us.length then us[j - n]? else vs[j]? := by
  unfold overl
  rw [List.append_assoc]
  by_cases h1 : j < n
  · rw [if_pos h1, List.getElem?_append_left (by simp; omega), List.getElem?_take, if_pos h1]
  · rw [if_neg h1, List.getElem?_append_right (by simp; omega)]
    have e : min n vs.length = n := by omega
    rw [List.length_take, e]
    by_cases h2 : j < n + us.length
    · rw [if_pos h2, List.getElem?_append_left (by omega)]
    · rw [if_neg h2, List.getElem?_append_right (by omega), List.getElem?_drop]
      congr 1; omega

theorem overl_nil {vs : List Value} {n : Nat} : overl vs n [] = vs := by simp [overl]

theorem replF_len {cs ds es : List V} {n : Nat} (h : replF cs n ds = some es) : n + wdL ds ≤ wdL cs := by
  have hd : ∀ (cs : List V) (n : Nat) (ds : List V), dropF cs n = some ds → n ≤ wdL cs := by
    intro cs
    induction cs with
    | nil => intro n ds h; cases n with
      | zero => omega
      | succ n => simp [dropF] at h
    | cons c cs ih => intro n ds h; cases n with
      | zero => omega
      | succ n =>
        simp only [dropF] at h
        split at h
        · have := ih _ _ h; simp only [wdL]; omega
        · cases h
  induction cs generalizing n es with
  | nil => cases n with
    | zero => simp only [replF, Option.map_eq_some_iff] at h; obtain ⟨fs, hf, rfl⟩ := h; have := hd _ _ _ hf; omega
    | succ n => simp [replF] at h
  | cons c cs ih => cases n with
    | zero => simp only [replF, Option.map_eq_some_iff] at h; obtain ⟨fs, hf, rfl⟩ := h; have := hd _ _ _ hf; omega
    | succ n =>
      simp only [replF] at h
      split at h
      · simp only [Option.map_eq_some_iff] at h
        obtain ⟨fs, hf, rfl⟩ := h
        have := ih hf
        simp only [wdL]; omega
      · cases h

mutual
theorem no_false : (v : V) → v.no (fun _ => false) = true
  | .pt _ _ | .pa _ _ _ _ _ _ | .pr _ _ _ _ | .ow _ _ _ _ | .mp _ => rfl
  | .pi cs | .fn _ cs | .ifa _ cs | .agg cs | .tup cs => by simp only [V.no]; exact noL_false cs
  | .ifc _ v => by simp only [V.no]; exact no_false v
  | .junk | .b _ | .i _ _ | .f _ | .u _ | .s _ | .np | .ni | .nf | .ns | .nm | .sl _ _ | .ar _ _ _ => rfl
theorem noL_false : (l : List V) → noL (fun _ => false) l = true
  | [] => rfl
  | v :: vs => by simp only [noL, no_false v, noL_false vs, Bool.and_self]
end

section
variable {P : Program} {ρ : Nat → Place} {I : Nat → Prop} {s : St} {a : Go.Act} {w : World} {oo : Oper}

theorem den_ns {τ : Ty} {pre post : List V} {vs : List Value} (h : DenL ρ I w (pre ++ .ns :: post) vs) : DenL ρ I w (pre ++ .sl τ [] :: post) vs := by
  obtain ⟨us, ws, rfl, _, h1, h2⟩ := h.split
  refine h1.append ?_
  cases h2 with
  | ns h3 => exact .sl0 τ _ _ h3

theorem dec_ok {τ : Ty} {cs : List V} {x : τ.den} {vs : List Value} (h : dec τ cs = some x) (hd : DenL ρ I w cs vs) : DenL ρ I w (enc τ x) vs := by
  unfold dec at h
  split at h <;> first
    | (cases h; done)
    | (injection h with h; subst h; exact hd)
    | (cases x; exact hd)
    | (split at h
       · rename_i hk; subst hk; injection h with h; subst h; exact hd
       · cases h)
    | skip
  all_goals
    injection h with h
    subst h
    first
      | exact den_ns (pre := []) hd
      | exact den_ns (pre := [_, _, _]) hd
      | exact den_ns (pre := [_, _, _, _]) hd
      | exact den_ns (pre := [_, _, _, _, _]) hd
      | exact den_ns (pre := [_, _, _, _, _, _]) hd
      | exact den_ns (pre := [_, _, _, _, _]) (den_ns (τ := .ballot) (pre := [_, _, _, _, _, _]) hd)

theorem setBlk_keepI {b : Nat} {o : Obj} (hI : ¬ I b) : ∀ c, I c → (setBlk w b o).heap[c]? = w.heap[c]? := fun _ hc => setBlk_other (fun e => hI (e ▸ hc))

/-- one object of the heap, changed in its block. -/
theorem upd_obj {h : Hf} {id : Nat} {o o' : XObj} {ob : Obj} (R : RH ρ I w h) (ho : h id = some o) (hw : owns (ρ id) o) (hw' : owns (ρ id) o') (hok : ObjOk ρ I (setBlk w (ρ id).blk ob) (ρ id) o') :
    RH ρ I (setBlk w (ρ id).blk ob) (lk [(id, o')]) ∧ Loc ρ I w (Hf.part h [id].contains) ρ I (setBlk w (ρ id).blk ob) (lk [(id, o')]) (fun _ => false) := by
  have hown : Own ρ (Hf.part h [id].contains) (ρ id).blk := ⟨id, o, by simp [Hf.part, ho], hw, rfl⟩
  refine ⟨⟨R.glob.mono (fun _ h => h) (fun b hb => setBlk_other (fun e => R.own id o ho hw (e ▸ hb))), ?_, ?_, ?_, ?_⟩, ⟨?_, ?_, ?_, ?_, ?_, ?_, ?_⟩⟩
  · intro j y hj
    obtain ⟨rfl, rfl⟩ := lk_one hj
    exact hok
  · intro j y j' y' hj hj' hne
    obtain ⟨rfl, rfl⟩ := lk_one hj
    obtain ⟨rfl, rfl⟩ := lk_one hj'
    exact absurd rfl hne
  · intro j y hj _
    obtain ⟨rfl, rfl⟩ := lk_one hj
    exact R.own j o ho hw
  · intro b hb
    have := R.lt b hb
    simpa [setBlk] using this
  · intro b _ hb
    exact setBlk_other (fun e => hb (e ▸ hown))
  · simp [setBlk]
  · exact fun b h => h
  · exact fun b h => .inl h
  · rintro b ⟨j, y, hj, _, rfl⟩
    obtain ⟨rfl, rfl⟩ := lk_one hj
    exact .inl hown
  · exact fun _ _ => rfl
  · exact ⟨rfl, rfl, rfl⟩

theorem run_storeVar {t : TypeId} {ti : TypeInfo} {b off : Nat} {T : TypeId} {fr : Nat × Nat} {vs : List Value} {x : Value} (hi : P.info? t = some ti) (hsz : x.cells.toList.length = ti.size)
    (hb : w.heap[b]? = some (.cells vs.toArray T fr)) (hone : ∀ u ∈ x.cells.toList, oneC u = true) (hl : off + x.cells.toList.length ≤ vs.length) (hu : unfr fr vs.length) :
    (storeVar t ⟨b, off, none⟩ x).run P w = .ok () (setBlk w b (.cells (overl vs off x.cells.toList).toArray T fr)) := by
  unfold storeVar
  have hsz' : x.cells.size = ti.size := by simpa using hsz
  have h := run_storeCells (P := P) (b := b) (off := off) x.cells.toList 0 w vs hb hone (by simpa using hl) hu
  rw [Sem.run_bind' (run_sizeOf hi)]
  simp only [hsz', ne_eq, not_true, if_false]
  rw [h]
  by_cases hz : x.cells.toList = []
  · rw [if_pos hz, hz, overl_nil]
    congr 1
    unfold setBlk
    have hlt : b < w.heap.size := by
      rcases Nat.lt_or_ge b w.heap.size with h' | h'
      · exact h'
      · simp [Array.getElem?_eq_none h'] at hb
    have : w.heap.setIfInBounds b (.cells vs.toArray T fr) = w.heap := by
      apply Array.ext_getElem?
      intro i
      rw [Array.getElem?_setIfInBounds]
      by_cases hi : b = i
      · subst hi; simp [hlt]; rw [Array.getElem?_eq_getElem hlt] at hb; injection hb with hb; exact hb.symm
      · simp [hi]
    rw [this]
  · rw [if_neg hz, Nat.add_zero]

/-- a store into a block of cells. -/
theorem st_cells (R : Rx ρ I s a w) {t : TypeId} {ti : TypeInfo} {p x : Operand} {id off : Nat} {cs cs' : List V} {us : List Value} (hi : P.info? t = some ti)
    (hlk : lk s.h id = some (.cells cs)) (hp : a.eval p = .pointer (some ⟨(ρ id).blk, off, none⟩)) (hus : (a.eval x).cells.toList = us) (hsz : us.length = ti.size) (hone : ∀ u ∈ us, oneC u = true)
    (hl : off + us.length ≤ wdL cs) (hd : ∀ vs, DenL ρ I w cs vs → DenL ρ I w cs' (overl vs off us)) (ho : oo.op = .store t p x) :
    R1ok P ((execOp a.eval oo).run P w) ρ I w s (fun _ => false) (.upd [] [id] [(id, .cells cs')] .junk) := by
  obtain ⟨vs, T, fr, g1, g2, g3⟩ := R.heap.ok id _ hlk
  have hlv : off + us.length ≤ vs.length := by rw [g2.length]; exact hl
  have hrun := run_storeVar (P := P) hi (by rw [hus]; exact hsz) g1 (by rw [hus]; exact hone) (by rw [hus]; exact hlv) g3
  rw [hus] at hrun
  have hnI := R.heap.own id _ hlk trivial
  obtain ⟨h1, h2⟩ := upd_obj (id := id) (o := .cells cs) (o' := .cells cs') (ob := .cells (overl vs off us).toArray T fr) R.heap hlk trivial trivial
    ⟨overl vs off us, T, fr, setBlk_get g1, (hd vs g2).mono (N := fun _ => false) (fun _ h => h) (setBlk_keepI hnI) (fun _ _ => rfl) (noL_false _), by rw [overl_len hlv]; exact g3⟩
  refine ⟨ρ, I, _, _, undef, ?_, .inr ⟨rfl, rfl⟩, h1, h2, trivial⟩
  simp only [execOp, ho, hp]
  unfold Instr.storeAt
  rw [Sem.run_bind' (a := ()) (by rw [Sem.run_bind' run_sureAddr]; exact hrun)]; rfl

theorem drop_split {vs us rest : List Value} {off k : Nat} {es : List Value} (h : vs.drop off = us ++ rest) (hk : k + es.length ≤ us.length) :
    overl vs (off + k) es = vs.take off ++ (overl us k es ++ rest) := by
  have hlen : off + (us.length + rest.length) = vs.length ∨ vs.length < off := by
    have := congrArg List.length h
    simp at this; omega
  have hl : off + us.length + rest.length = vs.length ∨ us.length = 0 := by
    rcases hlen with h1 | h1
    · left; omega
    · right
      have := congrArg List.length h
      simp at this; omega
  rcases hl with hl | hl
  · have e : vs = vs.take off ++ (us ++ rest) := by rw [← h, List.take_append_drop]
    have hoff : (vs.take off).length = off := by simp; omega
    conv => lhs; rw [e]
    unfold overl
    rw [List.take_append, hoff, List.take_of_length_le (by omega), List.drop_append, hoff, List.drop_eq_nil_of_le (by omega), List.nil_append]
    rw [show off + k - off = k from by omega, show off + k + es.length - off = k + es.length from by omega]
    rw [List.take_append_of_le_length (by omega), List.drop_append, show k + es.length - us.length = 0 from by omega, List.drop_zero]
    simp [List.append_assoc]
  · have hk0 : k = 0 := by omega
    have he : es = [] := List.eq_nil_of_length_eq_zero (by omega)
    subst hk0; subst he
    have hu : us = [] := List.eq_nil_of_length_eq_zero hl
    subst hu
    simp only [overl_nil, List.nil_append] at h ⊢
    rw [← h, List.take_append_drop]

theorem overl_overl {us es : List Value} {k m sub : Nat} (h1 : sub + es.length ≤ m) (h2 : k + m ≤ us.length) : overl us k (overl ((us.drop k).take m) sub es) = overl us (k + sub) es := by
  have hsl : ((us.drop k).take m).length = m := by rw [List.length_take, List.length_drop]; omega
  have hol : (overl ((us.drop k).take m) sub es).length = m := by rw [overl_len (by omega)]; exact hsl
  apply List.ext_getElem?
  intro j
  rw [overl_get (vs := us) (n := k) (by omega), overl_get (vs := us) (n := k + sub) (by omega), hol]
  by_cases j1 : j < k
  · rw [if_pos j1, if_pos (by omega)]
  · rw [if_neg j1]
    by_cases j2 : j < k + m
    · rw [if_pos j2, overl_get (by omega)]
      by_cases j3 : j < k + sub
      · rw [if_pos j3, if_pos (by omega), List.getElem?_take, if_pos (by omega), List.getElem?_drop]; congr 1; omega
      · rw [if_neg j3, if_neg (by omega)]
        by_cases j4 : j < k + sub + es.length
        · rw [if_pos j4, if_pos (by omega)]; congr 1; omega
        · rw [if_neg j4, if_neg (by omega), List.getElem?_take, if_pos (by omega), List.getElem?_drop]; congr 1; omega
    · rw [if_neg j2, if_neg (by omega), if_neg (by omega)]

theorem flat_set {τ : Ty} {xs : List τ.den} {x : τ.den} {ua ue : List Value} {n : Nat} (h : DenL ρ I w (xs.flatMap (enc τ)) ua) (hx : DenL ρ I w (enc τ x) ue) (hn : n < xs.length) :
    DenL ρ I w ((xs.set n x).flatMap (enc τ)) (overl ua (n * τ.size) ue) := by
  have hue : ue.length = τ.size := by rw [hx.length, wdL_enc]
  induction xs generalizing ua n with
  | nil => cases hn
  | cons y ys ih =>
    rw [List.flatMap_cons] at h
    obtain ⟨us, ws, rfl, hl, h1, h2⟩ := h.split
    rw [wdL_enc] at hl
    cases n with
    | zero =>
      simp only [List.set_cons_zero, List.flatMap_cons, Nat.zero_mul]
      have e : overl (us ++ ws) 0 ue = ue ++ ws := by
        unfold overl
        simp only [List.take_zero, List.nil_append, Nat.zero_add]
        rw [List.drop_append, List.drop_eq_nil_of_le (by omega), hue, hl]; simp
      rw [e]; exact hx.append h2
    | succ n =>
      simp only [List.set_cons_succ, List.flatMap_cons]
      have h3 := ih h2 (by simpa using hn)
      have e : overl (us ++ ws) ((n + 1) * τ.size) ue = us ++ overl ws (n * τ.size) ue := by
        unfold overl
        rw [Nat.succ_mul, List.take_append, List.take_of_length_le (by omega), List.drop_append, List.drop_eq_nil_of_le (by omega), hl]
        simp only [List.nil_append, List.append_assoc]
        rw [show n * τ.size + τ.size - τ.size = n * τ.size from by omega, show n * τ.size + τ.size + ue.length - τ.size = n * τ.size + ue.length from by omega]
      rw [e]; exact h1.append h3

theorem ok_st (R : Rx ρ I s a w) {t : TypeId} {ti : TypeInfo} {p x : Operand} {po xo : XO} (hp : ofOpd p = some po) (hx : ofOpd x = some xo) (hi : P.info? t = some ti) (ho : oo.op = .store t p x) :
    R1ok P ((execOp a.eval oo).run P w) ρ I w s (fun _ => false) (owner s oo.dst (.st po xo ti.size)) := by
  have h1 := R.ev hp
  have h2 := R.ev hx
  simp only [owner]
  generalize s.ev po = v at h1
  split <;> first | trivial | skip
  · rename_i id off
    split <;> first | trivial | skip
    rename_i cs ds hlk hds
    split <;> first | trivial | skip
    rename_i hsz
    split <;> first | trivial | skip
    rename_i cs' hcs
    have hd := vcells_ok hds h2
    have hle := replF_len hcs
    refine st_cells R hi hlk h1.pt rfl (by rw [hd.length]; exact hsz) hd.one (by rw [hd.length]; exact hle) ?_ ho
    intro vs hvs
    exact replF_ok hcs hvs hd
  · rename_i id off τ n ix sub
    split <;> first | trivial | skip
    rename_i cs ds hlk hds
    split <;> first | trivial | skip
    rename_i τ' n' xs rest hdr
    split <;> first | trivial | skip
    rename_i hh
    obtain ⟨rfl, rfl⟩ := hh
    split <;> first | trivial | skip
    rename_i hsz
    split <;> first | trivial | skip
    rename_i x' hx'
    split <;> first | trivial | skip
    rename_i cs' hcs
    have hd := vcells_ok hds h2
    obtain ⟨e1, h0, hlt⟩ := h1.pa
    rw [Option.bind_eq_some_iff] at hx'
    obtain ⟨es, hes, hdec⟩ := hx'
    have hle1 := replF_len hes
    rw [wdL_enc] at hle1
    have hle2 := replF_len hcs
    simp only [wdL, wd, Nat.add_zero] at hle2
    have hix : ix.toNat * τ.size + τ.size ≤ n * τ.size := by
      rw [← Nat.succ_mul]; exact Nat.mul_le_mul_right _ hlt
    refine st_cells (off := off + ix.toNat * τ.size + sub) R hi hlk e1 rfl (by rw [hd.length]; exact hsz) hd.one (by rw [hd.length]; omega) ?_ ho
    intro vs hvs
    have h3 := dropF_ok hdr hvs
    obtain ⟨us, ws, e, hl, h4, h5⟩ := h3.cons_one
    cases h4 with
    | ar τ xs us h6 h7 =>
      cases h7
      rw [List.append_nil] at e
      have hix' : ix.toNat < xs.length := hlt
      rw [gt_def, getD_eq hix'] at hes
      have hus : us.length = xs.length * τ.size := by rw [h6.length, wdL_flat]
      have h7 := flat_drop h6 hix'
      have h8 := replF_ok hes h7 hd
      have h9 := dec_ok hdec h8
      have h10 := flat_set h6 h9 hix'
      have h11 := DenL.ar (ρ := ρ) (I := I) (w := w) τ (xs.set ix.toNat x') _ h10 .nil
      rw [List.append_nil, List.length_set] at h11
      rw [stl_def] at hcs
      have h12 := replF_ok hcs hvs h11
      have hsub : sub + (a.eval x).cells.toList.length ≤ τ.size := by rw [hd.length]; exact hle1
      have e2 : overl us (ix.toNat * τ.size) (overl ((us.drop (ix.toNat * τ.size)).take τ.size) sub (a.eval x).cells.toList) = overl us (ix.toNat * τ.size + sub) (a.eval x).cells.toList :=
        overl_overl hsub (by omega)
      have e3 : overl vs off (overl us (ix.toNat * τ.size) (overl ((us.drop (ix.toNat * τ.size)).take τ.size) sub (a.eval x).cells.toList)) = overl vs (off + ix.toNat * τ.size + sub) (a.eval x).cells.toList := by
        rw [e2, Nat.add_assoc, drop_split e (by omega)]
        have h13 : (overl us (ix.toNat * τ.size + sub) (a.eval x).cells.toList).length = us.length := overl_len (by omega)
        have := drop_split (k := 0) (es := overl us (ix.toNat * τ.size + sub) (a.eval x).cells.toList) e (by omega)
        rw [Nat.add_zero] at this
        rw [this]
        congr 2
        unfold overl
        simp
        omega
      rw [← e3]
      exact h12
  · rename_i id τ ix sub
    split <;> first | trivial | skip
    rename_i τ' xs ds hlk hds
    split <;> first | trivial | skip
    rename_i hτ; subst hτ
    split <;> first | trivial | skip
    rename_i hsz
    split <;> first | trivial | skip
    rename_i x' hx'
    intro hlt
    rw [ln_def] at hlt
    have hd := vcells_ok hds h2
    obtain ⟨e1, h0⟩ := h1.pr
    have hix : ix.toNat < xs.length := by omega
    rw [Option.bind_eq_some_iff] at hx'
    obtain ⟨es, hes, hdec⟩ := hx'
    rw [gt_def, getD_eq hix] at hes
    have hle1 := replF_len hes
    rw [wdL_enc] at hle1
    rcases R.heap.ok id _ hlk with ⟨_, rfl⟩ | ⟨hcap, arr, T, fr, g, g1, g2, g3, g4, g5, g6, g7⟩
    · simp at hix
    · have hnI := R.heap.own id _ hlk hcap
      have hgl : ∀ n, n < xs.length → (g n).length = τ.size := fun n hn => by rw [(g5 n hn).length, wdL_enc]
      obtain ⟨vs, rfl⟩ : ∃ vs : List Value, arr = vs.toArray := ⟨arr.toList, by simp⟩
      have hin : (ρ id).off + ix.toNat * τ.size + sub + (a.eval x).cells.toList.length ≤ vs.length := by
        have : ix.toNat * τ.size + τ.size ≤ (ρ id).cap * τ.size := by rw [← Nat.succ_mul]; exact Nat.mul_le_mul_right _ (by omega)
        simp at g3
        rw [hd.length]; omega
      have hrun := run_storeVar (P := P) hi (by rw [hd.length]; exact hsz) g1 hd.one hin (by simpa using g2)
      have hcell : ∀ (o : Nat) (us : List Value), cellsAt w (ρ id).blk o us ↔ ∀ j v, us[j]? = some v → vs[o + j]? = some v := by
        intro o us
        constructor
        · intro h j v hv; rw [← cell?_of g1]; exact h j v hv
        · intro h; exact cellsAt_of g1 h
      have hg := hgl _ hix
      have hok : ObjOk ρ I (setBlk w (ρ id).blk (.cells (overl vs ((ρ id).off + ix.toNat * τ.size + sub) (a.eval x).cells.toList).toArray T fr)) (ρ id) (.row τ (stl xs ix x')) := by
        refine .inr ⟨hcap, _, T, fr, (fun n => if n = ix.toNat then overl (g n) sub (a.eval x).cells.toList else g n), setBlk_get g1, ?_, ?_, ?_, ?_, ?_⟩
        · simpa [overl_len hin] using g2
        · simpa [overl_len hin] using g3
        · rw [stl_def, List.length_set]; exact g4
        · intro n hn
          rw [stl_def, List.length_set] at hn
          refine DenL.mono (N := fun _ => false) (fun _ h => h) (setBlk_keepI hnI) (fun _ _ => rfl) ?_ (noL_false _)
          simp only [stl_def]
          by_cases e : n = ix.toNat
          · subst e
            rw [if_pos rfl, List.getElem_set_self]
            exact dec_ok hdec (replF_ok hes (g5 _ hix) hd)
          · rw [if_neg e, List.getElem_set_ne (Ne.symm e)]
            exact g5 n hn
        · refine ⟨?_, g7⟩
          intro n hn
          rw [stl_def, List.length_set] at hn
          refine cellsAt_of (setBlk_get g1) ?_
          intro j v hv
          rw [overl_get hin]
          by_cases e : n = ix.toNat
          · subst e
            simp only [if_true] at hv
            rw [overl_get (by rw [hd.length]; omega)] at hv
            by_cases j1 : j < sub
            · rw [if_pos j1] at hv
              rw [if_pos (by omega)]
              exact (hcell _ _).1 (g6 _ hix) j v hv
            · rw [if_neg j1] at hv
              rw [if_neg (by omega)]
              by_cases j2 : j < sub + (a.eval x).cells.toList.length
              · rw [if_pos j2] at hv
                rw [if_pos (by omega), ← hv]; congr 1; omega
              · rw [if_neg j2] at hv
                rw [if_neg (by omega)]
                exact (hcell _ _).1 (g6 _ hix) j v hv
          · simp only [if_neg e] at hv
            have hj : j < τ.size := by
              have := hgl n hn
              rcases Nat.lt_or_ge j (g n).length with h | h
              · omega
              · rw [List.getElem?_eq_none h] at hv; cases hv
            have hold := (hcell _ _).1 (g6 _ hn) j v hv
            have hlen := hd.length
            rcases Nat.lt_or_gt_of_ne e with h | h
            · have : n * τ.size + τ.size ≤ ix.toNat * τ.size := by rw [← Nat.succ_mul]; exact Nat.mul_le_mul_right _ h
              rw [if_pos (by omega)]; exact hold
            · have : ix.toNat * τ.size + τ.size ≤ n * τ.size := by rw [← Nat.succ_mul]; exact Nat.mul_le_mul_right _ h
              rw [if_neg (by omega), if_neg (by omega)]; exact hold
      obtain ⟨k1, k2⟩ := upd_obj (id := id) (o := .row τ xs) (o' := .row τ (stl xs ix x')) R.heap hlk hcap hcap hok
      refine ⟨ρ, I, _, _, undef, ?_, .inr ⟨rfl, rfl⟩, k1, k2, trivial⟩
      simp only [execOp, ho, e1]
      unfold Instr.storeAt
      rw [Sem.run_bind' (a := ()) (by rw [Sem.run_bind' run_sureAddr]; exact hrun)]; rfl
end
end GoX
/- Structs and slices that are written out; a string's bytes. -/
set_option autoImplicit false
namespace GoX
open Go

theorem foldl_set : ∀ (us : List Value) (off k : Nat) (vs : List Value), off + k + us.length ≤ vs.length →
    (us.zipIdx k).foldl (fun (cs : Array Value) (p : Value × Nat) => cs.setIfInBounds (off + p.2) p.1) vs.toArray = (overl vs (off + k) us).toArray
  | [], off, k, vs, _ => by simp [overl_nil]
  | u :: us, off, k, vs, h => by
    simp only [List.zipIdx_cons, List.foldl_cons, List.setIfInBounds_toArray]
    simp at h
    rw [foldl_set us off (k + 1) _ (by simp; omega)]
    congr 1
    apply List.ext_getElem?
    intro j
    rw [overl_get (by simp; omega), overl_get (by simp; omega)]
    simp only [List.getElem?_set, List.length_cons]
    simp only [List.getElem?_cons]
    (repeat' split) <;> first
      | rfl
      | (exfalso; omega)
      | (congr 1; omega)

theorem fill_cons {place : Nat → Option (Nat × Nat)} {vs : List Value} {i off size : Nat} {v : Value} {rest : List (Nat × Value)} (hp : place i = some (off, size))
    (hs : v.cells.toList.length = size) (hl : off + size ≤ vs.length) :
    Instr.fill place vs.toArray ((i, v) :: rest) = Instr.fill place (overl vs off v.cells.toList).toArray rest := by
  simp only [Instr.fill, hp]
  have hs' : v.cells.size = size := by simpa using hs
  rw [if_neg (by simp [hs']; omega)]
  congr 1
  have := foldl_set v.cells.toList off 0 vs (by omega)
  rw [Nat.add_zero] at this
  rw [← this, ← Array.foldl_toList, Array.toList_zipIdx]

section
variable {P : Program} {ρ : Nat → Place} {I : Nat → Prop} {s : St} {a : Go.Act} {w : World} {N : Nat → Bool} {oo : Oper}

theorem run_mapM {α β : Type} {f : α → Sem β} {g : α → β} (l : List α) (h : ∀ x ∈ l, (f x).run P w = .ok (g x) w) : (l.mapM f).run P w = .ok (l.map g) w := by
  induction l with
  | nil => rfl
  | cons x l ih =>
    rw [List.mapM_cons, Sem.run_bind' (h x (List.mem_cons_self ..)), Sem.run_bind' (ih fun y hy => h y (List.mem_cons_of_mem _ hy))]; rfl

theorem run_mapMA {α β : Type} {f : α → Sem β} {g : α → β} (l : Array α) (h : ∀ x ∈ l, (f x).run P w = .ok (g x) w) : (l.mapM f).run P w = .ok (l.map g) w := by
  rw [Array.mapM_eq_mapM_toList, Sem.run_map, run_mapM (g := g) l.toList (fun x hx => h x (by simpa using hx))]
  simp only [Result.andThen_ok]
  congr 1
  apply Array.toList_inj.1
  simp

def foldB (s : St) (ps : List (Nat × Nat × XO)) (o : Option (List V)) : Option (List V) :=
  ps.foldl (fun acc p => acc.bind fun cs => (vcells (s.ev p.2.2)).bind fun ds => if wdL ds = p.2.1 then replF cs p.1 ds else none) o

theorem foldB_none (s : St) (ps : List (Nat × Nat × XO)) : foldB s ps none = none := by
  induction ps with
  | nil => rfl
  | cons p ps ih => simpa [foldB] using ih

theorem fillB (R : Rx ρ I s a w) {place : Nat → Option (Nat × Nat)} : ∀ (ps : List (Nat × Operand)) (qs : List (Nat × Nat × XO)) (cs cs' : List V) (vs : List Value),
    (ps.mapM fun (i, x) => (do let p ← place i; pure (p.1, p.2, ← ofOpd x) : Option (Nat × Nat × XO))) = some qs → foldB s qs (some cs) = some cs' → DenL ρ I w cs vs →
    ∃ vs', Instr.fill place vs.toArray (ps.map fun (i, x) => (i, a.eval x)) = some vs'.toArray ∧ DenL ρ I w cs' vs'
  | [], qs, cs, cs', vs, hm, hf, hd => by
    simp at hm; subst hm
    simp [foldB] at hf; subst hf
    exact ⟨vs, rfl, hd⟩
  | (i, x) :: ps, qs, cs, cs', vs, hm, hf, hd => by
    rw [List.mapM_cons] at hm
    simp only [bind, Option.bind_eq_some_iff, pure, Option.some.injEq] at hm
    obtain ⟨q, ⟨⟨off, size⟩, hp, xo, hx, rfl⟩, qs', hq, rfl⟩ := hm
    have hf' : foldB s qs' ((vcells (s.ev xo)).bind fun ds => if wdL ds = size then replF cs off ds else none) = some cs' := by
      simpa [foldB] using hf
    cases hv : vcells (s.ev xo) with
    | none => rw [hv] at hf'; simp only [Option.bind_none] at hf'; rw [foldB_none] at hf'; cases hf'
    | some ds =>
      rw [hv] at hf'
      simp only [Option.bind_some] at hf'
      split at hf'
      · rename_i hw
        cases hr : replF cs off ds with
        | none => rw [hr, foldB_none] at hf'; cases hf'
        | some es =>
          rw [hr] at hf'
          have h1 := vcells_ok hv (R.ev hx)
          have hle := replF_len hr
          have h2 := replF_ok hr hd h1
          have hsz : (a.eval x).cells.toList.length = size := by rw [h1.length]; exact hw
          obtain ⟨vs', h3, h4⟩ := fillB R ps qs' es cs' _ hq hf' h2
          refine ⟨vs', ?_, h4⟩
          rw [List.map_cons, fill_cons hp hsz (by rw [hd.length]; omega)]
          exact h3
      · rw [foldB_none] at hf'; cases hf'

theorem ok_bld (R : Rx ρ I s a w) {t : TypeId} {fs : Array Go.Field} {ps : Array (Nat × Operand)} {qs : List (Nat × Nat × XO)} {cs : List V} (hz : zeroOk P t cs) (ht : P.underlying t = some (.struct fs))
    (hfs : ∀ f ∈ fs, (P.info? f.type).isSome)
    (hq : (ps.toList.mapM fun (i, x) => (do let f ← fs[i]?; pure (f.offset, ← (P.info? f.type).map (·.size), ← ofOpd x) : Option (Nat × Nat × XO))) = some qs) (ho : oo.op = .build t ps) :
    R1ok P ((execOp a.eval oo).run P w) ρ I w s N (owner s oo.dst (.bld cs qs)) := by
  simp only [owner]
  split <;> first | trivial | skip
  rename_i cs' hcs
  obtain ⟨i, z, hi, hz, hf⟩ := hz
  obtain ⟨hd, _⟩ := flatL_ok (ρ := ρ) (I := I) (w := w) hf
  let g : Go.Field → Nat × Nat := fun f => (f.offset, ((P.info? f.type).map (·.size)).getD 0)
  have hq' : (ps.toList.mapM fun (i, x) => (do let p ← (fs.map g)[i]?; pure (p.1, p.2, ← ofOpd x) : Option (Nat × Nat × XO))) = some qs := by
    rw [← hq]
    congr 1
    funext ⟨i, x⟩
    simp only [Array.getElem?_map]
    cases hfi : fs[i]? with
    | none => rfl
    | some f =>
      have hm : f ∈ fs := Array.mem_of_getElem? hfi
      have := hfs f hm
      cases hinf : P.info? f.type with
      | none => rw [hinf] at this; cases this
      | some ti => simp [g, hinf]
  obtain ⟨vs', h1, h2⟩ := fillB R (place := fun i => (fs.map g)[i]?) ps.toList qs cs cs' _ hq' hcs hd
  refine ⟨.agg vs'.toArray, ?_, ⟨vs', rfl, h2⟩⟩
  simp only [execOp, ho]
  refine run_v ?_
  unfold Instr.build
  rw [Sem.run_bind' (run_zeroValue hi hz), Sem.run_bind' (run_underlying ht)]
  simp only
  rw [Sem.run_bind' (run_mapMA (g := g) fs (fun f hf => by
    have := hfs f hf
    cases hinf : P.info? f.type with
    | none => rw [hinf] at this; cases this
    | some ti => rw [Sem.run_bind' (run_sizeOf hinf)]; simp [g, hinf]))]
  have e : (ps.map fun (i, x) => (i, a.eval x)).toList = ps.toList.map fun (i, x) => (i, a.eval x) := by simp
  rw [e]
  have h1' : Instr.fill (fun x => (Array.map g fs)[x]?) z.cells (ps.toList.map fun (i, x) => (i, a.eval x)) = some vs'.toArray := by
    have := h1; simpa using this
  rw [h1']; rfl

theorem fill_seq {size : Nat} : ∀ (xs : List Value) (i : Nat) (vs : List Value), (∀ x ∈ xs, x.cells.toList.length = size) → vs.length = (i + xs.length) * size →
    Instr.fill (fun i => some (i * size, size)) vs.toArray (xs.zipIdx i |>.map fun p => (p.2, p.1)) = some (vs.take (i * size) ++ xs.flatMap fun x => x.cells.toList).toArray
  | [], i, vs, _, hl => by simp at hl; simp [Instr.fill, ← hl]
  | x :: xs, i, vs, hx, hl => by
    have h0 := hx x (List.mem_cons_self ..)
    have e1 : (i + (xs.length + 1)) * size = i * size + size + xs.length * size := by rw [Nat.add_mul, Nat.succ_mul]; omega
    simp only [List.length_cons] at hl
    simp only [List.zipIdx_cons, List.map_cons]
    rw [fill_cons rfl h0 (by omega), fill_seq xs (i + 1) _ (fun y hy => hx y (List.mem_cons_of_mem _ hy)) (by rw [overl_len (by omega), hl]; congr 1; omega)]
    congr 2
    simp only [List.flatMap_cons]
    rw [← List.append_assoc]
    congr 1
    unfold overl
    rw [Nat.succ_mul]
    refine List.take_left' ?_
    rw [List.length_append, List.length_take]
    omega

theorem compSlot_ok {n : Nat} {e : TypeId} : ∀ (ps : List (Nat × XO)) (i : Nat) (l : List XO), compSlot e n ps i = some l → ps = (l.zipIdx i).map (fun p => (p.2, p.1)) ∧ i + l.length = n
  | [], i, l, h => by
    simp only [compSlot] at h
    split at h
    · injection h with h; subst h; rename_i hi; exact ⟨rfl, by simpa using hi⟩
    · cases h
  | (j, x) :: r, i, l, h => by
    simp only [compSlot] at h
    split at h
    · rename_i hi; subst hi
      simp only [Option.map_eq_some_iff] at h
      obtain ⟨l', hl, rfl⟩ := h
      obtain ⟨h1, h2⟩ := compSlot_ok r (i + 1) l' hl
      exact ⟨by simp [List.zipIdx_cons, h1], by simp; omega⟩
    · cases h

end
end GoX
/- Slices that are written out, a string's bytes, append. -/
set_option autoImplicit false
namespace GoX
open Go

section
variable {P : Program} {ρ : Nat → Place} {I : Nat → Prop} {s : St} {a : Go.Act} {w : World} {N : Nat → Bool} {oo : Oper}

theorem elem_le (τ : Ty) : τ.size ≤ 20 := by cases τ <;> simp [Ty.size]

theorem ok_bsl (R : Rx ρ I s a w) {t e : TypeId} {τ : Ty} {ei : TypeInfo} {z : Value} {n d : Nat} {ps : Array (Nat × Operand)} {l : List XO} {qs : List (Nat × XO)}
    (ht : P.underlying t = some (.slice e)) (he : P.info? e = some ei) (hsz : ei.size = τ.size) (hz : ei.zero = some z)
    (hq : (ps.toList.mapM fun (i, x) => (do pure (i, ← ofOpd x) : Option (Nat × XO))) = some qs) (hl : compSlot e n qs 0 = some l) (hn : n ≤ 64) (hT : okTy τ e = true)
    (hN : N (nid d) = true) (hdst : oo.dst = some d) (ho : oo.op = .buildSlice t n ps) :
    R1ok P ((execOp a.eval oo).run P w) ρ I w s N (owner s oo.dst (.bsl τ l)) := by
  simp only [owner, hdst]
  split <;> first | trivial | skip
  rename_i d' xs hd' hxs
  injection hd' with hd'; subst hd'
  obtain ⟨h1, h2⟩ := compSlot_ok qs 0 l hl
  simp only [Nat.zero_add] at h2
  -- the parts' values
  have key : ∀ (ps : List (Nat × Operand)) (l : List XO) (xs : List τ.den) (i : Nat), (ps.mapM fun (i, x) => (do pure (i, ← ofOpd x) : Option (Nat × XO))) = some ((l.zipIdx i).map fun p => (p.2, p.1)) →
      (l.map s.ev).mapM (fun v => (vcells v).bind (dec τ)) = some xs →
      ∃ us : List Value, (ps.map fun (i, x) => (i, a.eval x)) = (us.zipIdx i).map (fun p => (p.2, p.1)) ∧ (∀ u ∈ us, u.cells.toList.length = τ.size) ∧ us.length = l.length ∧ xs.length = l.length ∧
        DenL ρ I w (xs.flatMap (enc τ)) (us.flatMap fun (u : Value) => u.cells.toList) := by
    intro ps
    induction ps with
    | nil =>
      intro l xs i h1 h2
      cases l with
      | nil => simp at h2; subst h2; exact ⟨[], rfl, by simp, rfl, rfl, .nil⟩
      | cons x l => simp at h1
    | cons p ps ih =>
      obtain ⟨j, x⟩ := p
      intro l xs i h1 h2
      rw [List.mapM_cons] at h1
      simp only [bind, Option.bind_eq_some_iff, pure, Option.some.injEq] at h1
      obtain ⟨q, ⟨xo, hx, rfl⟩, rs, hr, he⟩ := h1
      cases l with
      | nil => simp at he
      | cons x' l =>
        simp only [List.zipIdx_cons, List.map_cons, List.cons.injEq, Prod.mk.injEq] at he
        obtain ⟨⟨rfl, rfl⟩, rfl⟩ := he
        rw [List.map_cons, List.mapM_cons] at h2
        simp only [bind, Option.bind_eq_some_iff, pure, Option.some.injEq] at h2
        obtain ⟨y, ⟨cs, hcs, hdec⟩, ys, hys, rfl⟩ := h2
        obtain ⟨us, e1, e2, e3, e4, e5⟩ := ih l ys (j + 1) hr hys
        have hd := dec_ok hdec (vcells_ok hcs (R.ev hx))
        refine ⟨a.eval x :: us, ?_, ?_, by simp [e3], by simp [e4], ?_⟩
        · simp only [List.map_cons, List.zipIdx_cons, e1]
        · intro u hu
          cases hu with
          | head => rw [hd.length, wdL_enc]
          | tail _ hu => exact e2 u hu
        · simp only [List.flatMap_cons]
          exact hd.append e5
  obtain ⟨us, e1, e2, e3, e4, e5⟩ := key ps.toList l xs 0 (by rw [hq, h1]) hxs
  have hlen : (us.flatMap fun (u : Value) => u.cells.toList).length = n * τ.size := by rw [e5.length, wdL_flat, e4, h2]
  have hk : okLen xs.length := by unfold okLen; omega
  obtain ⟨ρ', k1, k2, k3⟩ := new_row (h := Hf.part (lk s.h) ([] : List Nat).contains) (id := nid d) (T := e) (τ := τ) (xs := xs) (vs := us.flatMap fun u : Value => u.cells.toList) (sp := []) (fr := (0, 0)) (cap := n)
    (w' := w.alloc (.cells ((us.flatMap fun (u : Value) => u.cells.toList) ++ []).toArray e)) hN R.heap.glob R.heap.lt rfl ⟨rfl, rfl, rfl⟩ e5 hT (fun j _ hj => by omega) (by omega) (by simp [hlen]) hk
  rw [ln_def] at k3
  have e6 : xs.length = l.length := e4
  refine ⟨ρ', I, _, _, .slice (some ⟨w.heap.size, 0, none⟩) xs.length n, ?_, .inl rfl, k1, k2, by rw [← e4]; exact k3⟩
  simp only [execOp, ho]
  refine run_v' ?_
  unfold Instr.buildSlice
  rw [Sem.run_bind' (run_underlying ht)]
  simp only
  rw [Sem.run_bind' (run_sizeOf he), hsz]
  have hsm : ¬ (n * τ.size > 2 ^ 24) := by
    have := elem_le τ
    have : n * τ.size ≤ 64 * 20 := Nat.mul_le_mul hn this
    omega
  rw [if_neg hsm]
  have hfill : ∀ base : Array Value, base.size = n * τ.size → Instr.fill (fun i => some (i * τ.size, τ.size)) base (ps.map fun (i, x) => (i, a.eval x)).toList = some (us.flatMap fun (u : Value) => u.cells.toList).toArray := by
    intro base hb
    have e7 : (ps.map fun (i, x) => (i, a.eval x)).toList = (us.zipIdx 0).map fun p => (p.2, p.1) := by rw [← e1]; simp
    rw [e7]
    have := fill_seq (size := τ.size) us 0 base.toList e2 (by simp [hb, e3, h2])
    simpa using this
  have fin : ∀ zero : Array Value, (do
      let some cells := Instr.fill (fun i => some (i * τ.size, τ.size)) ((Array.range (n * τ.size)).map (zero[· % zero.size]!)) (ps.map fun (i, x) => (i, a.eval x)).toList
        | stuck "buildSlice: a part of the wrong size"
      pure (.slice (some (← newRow e cells)) n n) : Sem Value).run P w = .ok (.slice (some ⟨w.heap.size, 0, none⟩) xs.length n) (w.alloc (.cells ((us.flatMap fun (u : Value) => u.cells.toList) ++ []).toArray e)) := by
    intro zero
    rw [hfill _ (by simp)]
    rw [e4, h2, List.append_nil]; rfl
  by_cases h0 : n * τ.size = 0
  · rw [if_pos h0, Sem.run_bind' run_pure]
    exact fin #[]
  · rw [if_neg h0, Sem.run_bind' (run_zeroValue he hz)]
    exact fin z.cells
end
end GoX
/- A string's bytes; append. -/
set_option autoImplicit false
namespace GoX
open Go

section
variable {P : Program} {ρ : Nat → Place} {I : Nat → Prop} {s : St} {a : Go.Act} {w : World} {N : Nat → Bool} {oo : Oper}

theorem bytes_den (l : List UInt8) : DenL ρ I w ((l.map fun u => (u.toNat : Int)).flatMap (enc (.int .u8))) (l.map fun u => .int .u8 u.toNat) := by
  induction l with
  | nil => exact .nil
  | cons u l ih =>
    simp only [List.map_cons, List.flatMap_cons, enc, List.singleton_append]
    refine .i _ _ ?_ ih
    have := u.toNat_lt
    have hmin : IntKind.min .u8 = 0 := by decide
    have hmax : IntKind.max .u8 = 255 := by decide
    constructor <;> omega

theorem Content.flat {τ : Ty} {xs : List τ.den} {ad : Option Addr} (h : Content ρ I w τ xs ad) :
    ∃ us, DenL ρ I w (xs.flatMap (enc τ)) us ∧ (xs = [] ∨ ∃ blk off, ad = some ⟨blk, off, none⟩ ∧ cellsAt w blk off us) := by
  rcases h with rfl | ⟨blk, off, g, rfl, hd, hc⟩
  · exact ⟨[], .nil, .inl rfl⟩
  · have key : ∀ (xs : List τ.den) (off : Nat) (g : Nat → List Value), (∀ n (h : n < xs.length), DenL ρ I w (enc τ xs[n]) (g n)) → (∀ n, n < xs.length → cellsAt w blk (off + n * τ.size) (g n)) →
        ∃ us, DenL ρ I w (xs.flatMap (enc τ)) us ∧ cellsAt w blk off us := by
      intro xs
      induction xs with
      | nil => intro off g _ _; exact ⟨[], .nil, fun j v hv => by simp at hv⟩
      | cons x xs ih =>
        intro off g hd hc
        obtain ⟨us, h1, h2⟩ := ih (off + τ.size) (fun n => g (n + 1)) (fun n hn => hd (n + 1) (Nat.succ_lt_succ hn))
          (fun n hn => by have := hc (n + 1) (Nat.succ_lt_succ hn); rw [Nat.succ_mul] at this; rwa [show off + (n * τ.size + τ.size) = off + τ.size + n * τ.size from by omega] at this)
        have h3 := hd 0 (by simp)
        have h4 := hc 0 (by simp)
        simp only [Nat.zero_mul, Nat.add_zero, List.getElem_cons_zero] at h3 h4
        have hl : (g 0).length = τ.size := by rw [h3.length, wdL_enc]
        refine ⟨g 0 ++ us, by rw [List.flatMap_cons]; exact h3.append h1, ?_⟩
        intro j v hv
        by_cases hj : j < τ.size
        · rw [List.getElem?_append_left (by omega)] at hv; exact h4 j v hv
        · rw [List.getElem?_append_right (by omega), hl] at hv
          have := h2 (j - τ.size) v hv
          rwa [show off + τ.size + (j - τ.size) = off + j from by omega] at this
    obtain ⟨us, h1, h2⟩ := key xs off g hd hc
    exact ⟨us, h1, .inr ⟨blk, off, rfl, h2⟩⟩

theorem run_cap {need old : Nat} {e : TypeId} : ∃ c, need ≤ c ∧ (choose (.appendCap need old e)).run P w = .ok c { w with drawn := w.drawn + 1 } :=
  ⟨_, Nat.le_add_right _ _, rfl⟩

theorem freeze_push {w1 : World} {arr : Array Value} {T n : Nat} : ((w1.alloc (.cells arr T)).freeze ⟨w1.heap.size, n, none⟩ 1).heap = w1.heap.push (.cells arr T (n, n + 1)) ∧
    SameRest w1 ((w1.alloc (.cells arr T)).freeze ⟨w1.heap.size, n, none⟩ 1) := by
  unfold World.freeze
  rw [if_neg (by decide)]
  refine ⟨?_, rfl, rfl, rfl⟩
  apply Array.ext_getElem?
  intro i
  show (Array.modify (w1.heap.push (.cells arr T)) _ _)[i]? = _
  rw [Array.getElem?_modify, Array.getElem?_push, Array.getElem?_push]
  by_cases hi : i = w1.heap.size
  · subst hi; simp
  · simp [hi, Ne.symm hi]

theorem ok_s2b (R : Rx ρ I s a w) {x : Operand} {xo : XO} {t u e : TypeId} {d : Nat} (hx : ofOpd x = some xo) (ho : oo.op = .convert t u x)
    (ht : P.underlying t = some .string) (hu : P.underlying u = some (.slice e)) (he : P.underlying e = some (.int .u8)) (hT : okTy (.int .u8) e = true) (hN : N (nid d) = true) (hdst : oo.dst = some d) :
    R1ok P ((execOp a.eval oo).run P w) ρ I w s N (owner s oo.dst (.s2b xo)) := by
  have h1 := R.ev hx
  simp only [owner]
  split <;> first | trivial | skip
  rename_i l d' hl hd'
  rw [hdst] at hd'
  injection hd' with hd'; subst hd'
  rw [hl] at h1
  obtain ⟨b, hb, rfl, hk⟩ := h1.s
  obtain ⟨c, hc, hrun⟩ := run_cap (P := P) (w := w) (need := b.size) (old := 0) (e := e)
  obtain ⟨us, hus⟩ : ∃ us : List Value, us = b.data.toList.map fun u => .int .u8 u.toNat := ⟨_, rfl⟩
  obtain ⟨sp, hsp⟩ : ∃ sp : List Value, sp = List.replicate (c - b.size) (.int .u8 0) := ⟨_, rfl⟩
  have hul : us.length = b.size := by rw [hus, List.length_map]; rfl
  have hlen : (us ++ sp).length = c := by rw [List.length_append, hul, hsp, List.length_replicate]; omega
  have hfz := freeze_push (w1 := { w with drawn := w.drawn + 1 }) (arr := (us ++ sp).toArray) (T := e) (n := c)
  obtain ⟨w', hw'⟩ : ∃ w', w' = ((World.alloc { w with drawn := w.drawn + 1 } (.cells (us ++ sp).toArray e)).freeze ⟨w.heap.size, c, none⟩ 1) := ⟨_, rfl⟩
  rw [← hw'] at hfz
  have hdn : DenL ρ I w ((toInts b).flatMap (enc (.int .u8))) us := by rw [hus]; exact bytes_den _
  obtain ⟨ρ', k1, k2, k3⟩ := new_row (h := Hf.part (lk s.h) ([] : List Nat).contains) (id := nid d) (T := e) (τ := .int .u8) (xs := toInts b) (vs := us) (sp := sp) (fr := (c, c + 1)) (cap := c) (w' := w') hN R.heap.glob R.heap.lt hfz.1 hfz.2 hdn hT
    (fun j hj hh => by simp only at hh; omega) (by rw [toInts_length]; exact hc) (by rw [hlen]; simp [Ty.size]) (by rw [toInts_length]; exact hk)
  rw [toInts_length] at k3
  refine ⟨ρ', I, w', _, .slice (some ⟨w.heap.size, 0, none⟩) b.size c, ?_, .inl rfl, k1, k2, k3⟩
  simp only [execOp, ho, hb]
  refine run_v' ?_
  unfold convert
  rw [Sem.run_bind' (run_underlying ht), Sem.run_bind' (run_underlying hu)]
  simp only
  rw [Sem.run_bind' (run_underlying he)]
  unfold Conv.stringToBytes
  rw [Sem.run_bind' hrun]
  have harr : (b.data.map fun u => Value.int .u8 (u.toNat : Int)) ++ Array.replicate (c - b.size) (.int .u8 0) = (us ++ sp).toArray := by
    apply Array.toList_inj.1
    rw [hus, hsp]; simp
  simp only [harr]
  have hsh : ∀ ww : World, ww = World.alloc { w with drawn := w.drawn + 1 } (.cells (us ++ sp).toArray e) → (markStringish ⟨w.heap.size, 0, none⟩).run P ww = .ok () (ww.freeze ⟨w.heap.size, c, none⟩ 1) := by
    intro ww hww
    have hs : ww.shape? w.heap.size = some (e, c) := by
      unfold World.shape?
      rw [hww, push_new (w := { w with drawn := w.drawn + 1 }) rfl]
      simp only [List.size_toArray, hlen]
    unfold markStringish
    simp only [shape, bind, Sem.bind, Sem.run, hs]
    rfl
  have hnr : (newRow e (us ++ sp).toArray).run P { w with drawn := w.drawn + 1 } = .ok ⟨w.heap.size, 0, none⟩ (World.alloc { w with drawn := w.drawn + 1 } (.cells (us ++ sp).toArray e)) := rfl
  rw [Sem.run_bind' hnr, Sem.run_bind' (hsh _ rfl), hw']; rfl

/-- what is appended. -/
theorem appended_ok (R : Rx ρ I s a w) {τ : Ty} {v : V} {x : Value} {fp : List Nat} {p : Unit → Prop} {ys : List τ.den} (h : appended s τ v = some (fp, p, ys)) (hp : p ()) (hd : DenV ρ I w v x) :
    ∃ us : List Value, DenL ρ I w (ys.flatMap (enc τ)) us ∧ (Builtin.lenOf x).run P w = .ok ys.length w ∧ okLen ys.length ∧
      ∀ w' : World, w'.heap = w.heap → (Builtin.firstCells τ.size ys.length x).run P w' = .ok us.toArray w' := by
  unfold appended at h
  split at h
  · split at h
    · rename_i l hτ
      subst hτ
      injection h with h; injection h with _ h; injection h with _ h; subst h
      obtain ⟨b, rfl, rfl, hk⟩ := hd.s
      refine ⟨_, bytes_den b.data.toList, ?_, by rw [toInts_length]; exact hk, ?_⟩
      · rw [toInts_length]; rfl
      · intro w' _
        rw [toInts_length]
        unfold Builtin.firstCells
        simp only
        have : (b.extract 0 b.size).data.toList = b.data.toList := by
          rw [Lib.extract_data, List.drop_zero, Nat.sub_zero]
          exact List.take_of_length_le (Nat.le_refl _)
        have e : ((b.extract 0 b.size).data.map fun u => Value.int .u8 (u.toNat : Int)) = (b.data.toList.map fun u => Value.int .u8 (u.toNat : Int)).toArray := by
          apply Array.toList_inj.1
          rw [Array.toList_map, this]
        rw [e]; rfl
    · cases h
  · obtain ⟨ad, cap, rfl, hk, hc⟩ := elems_ok R h hp hd
    obtain ⟨us, h1, h2⟩ := hc.flat
    refine ⟨us, h1, rfl, hk, ?_⟩
    intro w' hw'
    rcases h2 with rfl | ⟨blk, off, rfl, h2⟩
    · cases h1
      unfold Builtin.firstCells
      cases ad with
      | none => rfl
      | some ad => simp [loadCells, loadCellsFrom]
    · unfold Builtin.firstCells
      simp only
      refine run_loadCells (cellsAt_mono (by rw [hw']) h2) ?_
      rw [h1.length, wdL_flat]
end
end GoX
/- Append. -/
set_option autoImplicit false
namespace GoX
open Go

section
variable {P : Program} {ρ : Nat → Place} {I : Nat → Prop} {s : St} {a : Go.Act} {w : World} {N : Nat → Bool} {oo : Oper}

theorem run_askRoom {n : Nat} : (askRoom n).run P w = .ok () w := by
  unfold askRoom; split <;> rfl

theorem run_append_in {t u e : TypeId} {ei : TypeInfo} {ty : TypeId} {d : TypeDesc} {base : Option Addr} {sLen sCap n size : Nat} {y : Value} {us : List Value} (ht : P.underlying t = some (.slice e)) (he : P.info? e = some ei)
    (hsz : ei.size = size) (hu : P.underlying u = some d) (hd : ∀ k, d ≠ .int k) (hlen : (Builtin.lenOf y).run P w = .ok n w) (hus : (Builtin.firstCells size n y).run P w = .ok us.toArray w)
    (hle : sLen + n ≤ sCap) :
    (Builtin.append_ [t, u].toArray ty [.slice base sLen sCap, y].toArray).run P w =
      ((match base with | some a => storeCells (a.add (sLen * size)) us | none => pure ()) >>= fun _ => pure (.slice base (sLen + n) sCap) : Sem Value).run P w := by
  unfold Builtin.append_
  simp only [List.getElem?_toArray, List.getElem?_cons_zero, List.getElem?_cons_succ]
  rw [Sem.run_bind' (run_underlying ht)]
  simp only
  rw [Sem.run_bind' (run_sizeOf he), hsz]
  rw [Sem.run_bind' (run_underlying hu)]
  refine Eq.trans (Sem.run_bind' (a := false) (w' := w) ?_) ?_
  · cases d <;> first | rfl | (exact absurd rfl (hd _))
  simp only [Bool.false_eq_true, if_false]
  rw [Sem.run_bind' hlen]
  simp only [hle, if_true, Bool.not_false]
  rw [Sem.run_bind' hus]
  cases base <;> rfl

theorem run_append_new {t u e : TypeId} {ei : TypeInfo} {ty : TypeId} {d : TypeDesc} {z : Value} {base : Option Addr} {sLen sCap n size : Nat} {y : Value} {us old : List Value} (ht : P.underlying t = some (.slice e)) (he : P.info? e = some ei)
    (hsz : ei.size = size) (hz : ei.zero = some z) (hb1 : ei.bytes ≤ 1024) (hu : P.underlying u = some d) (hd : ∀ k, d ≠ .int k) (hlen : (Builtin.lenOf y).run P w = .ok n w)
    (hus : ∀ w' : World, w'.heap = w.heap → (Builtin.firstCells size n y).run P w' = .ok us.toArray w')
    (hold : ∀ w' : World, w'.heap = w.heap → (Builtin.firstCells size sLen (.slice base sLen sCap)).run P w' = .ok old.toArray w')
    (hle : sCap < sLen + n) (hbig : sLen + n ≤ 4294967296) :
    ∃ c, sLen + n ≤ c ∧ (Builtin.append_ [t, u].toArray ty [.slice base sLen sCap, y].toArray).run P w =
      .ok (.slice (some ⟨w.heap.size, 0, none⟩) (sLen + n) c) (World.alloc { w with drawn := w.drawn + 1 } (.cells ((old ++ us) ++ (Builtin.zeroCells z.cells (c - (sLen + n))).toList).toArray e)) := by
  obtain ⟨c, hc, hrun⟩ := run_cap (P := P) (w := w) (need := sLen + n) (old := sCap) (e := e)
  refine ⟨c, hc, ?_⟩
  unfold Builtin.append_
  simp only [List.getElem?_toArray, List.getElem?_cons_zero, List.getElem?_cons_succ]
  rw [Sem.run_bind' (run_underlying ht)]
  simp only
  rw [Sem.run_bind' (run_sizeOf he), hsz]
  rw [Sem.run_bind' (run_underlying hu)]
  refine Eq.trans (Sem.run_bind' (a := false) (w' := w) ?_) ?_
  · cases d <;> first | rfl | (exact absurd rfl (hd _))
  simp only [Bool.false_eq_true, if_false]
  rw [Sem.run_bind' hlen]
  rw [if_neg (by omega)]
  rw [Sem.run_bind' (run_typeInfo he)]
  have hmax : IntKind.i64.max = 9223372036854775807 := by decide
  rw [if_neg (by rw [hmax]; omega), Sem.run_bind' (run_typeInfo he)]
  have hcapB : Builtin.nextslicecap (sLen + n) sCap ≤ 2 * (sLen + n) := nextslicecap_le hle
  have hb2 : Builtin.nextslicecap (sLen + n) sCap * ei.bytes ≤ (2 * 4294967296) * 1024 := Nat.mul_le_mul (by omega) hb1
  rw [if_neg (by omega), Sem.run_bind' hrun, Sem.run_bind' (run_typeInfo he), Sem.run_bind' run_askRoom, Sem.run_bind' (hold { w with drawn := w.drawn + 1 } rfl)]
  simp only [Bool.not_false, if_true]
  rw [Sem.run_bind' (hus { w with drawn := w.drawn + 1 } rfl), Sem.run_bind' (run_zeroValue he hz)]
  have e1 : old.toArray ++ us.toArray ++ Builtin.zeroCells z.cells (c - (sLen + n)) = ((old ++ us) ++ (Builtin.zeroCells z.cells (c - (sLen + n))).toList).toArray := by
    apply Array.toList_inj.1; simp
  rw [e1]; rfl
end
end GoX
