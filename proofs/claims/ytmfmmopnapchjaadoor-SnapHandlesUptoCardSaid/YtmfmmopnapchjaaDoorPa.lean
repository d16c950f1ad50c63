/- The kernel as plain data, and what its operations make of it (no program). -/
import Derived.Test.YtmfmmopnapchjaaDoorMk
namespace Go.Proofs.YtmfmmopnapchjaaDoor
open Go

/-- Six counts of an account. -/
structure Acc6 where
  (gv own lent done cut late : Int)
deriving DecidableEq, Inhabited
def Acc6.zero : Acc6 := ⟨0, 0, 0, 0, 0, 0⟩
structure JobD where
  (len cap asked due : Int)
deriving DecidableEq, Inhabited
structure TkD where
  (prio : Int) (jobs : List JobD) (acc : Acc6)
deriving DecidableEq, Inhabited
structure BudD where
  (q p nq np : Int) (dying : Bool) (left st fin : Int)
deriving DecidableEq, Inhabited
def BudD.zero : BudD := ⟨0, 0, 0, 0, false, 0, 0, 0⟩
/-- A table of slots. -/
structure TabD (α : Type) where
  gen : Nat → Nat
  thing : Nat → Option α
structure NdD where
  parent : Option Nat
  b : BudD
  clock : Int
  leaf : TabD TkD
  acc : Acc6
  closed : Acc6
structure KD where
  t : TabD NdD
  pool : TabD TkD
  last : Int
  now : Int
  idle : Int

/-- The number of a handle. -/
def hnd (k i g : Nat) : Int := (k : Int) * 1099511627776 + (i : Int) * 1048576 + (g : Int)

namespace TabD
variable {α : Type}
def new : TabD α := ⟨fun _ => 1, fun _ => none⟩
def taken (t : TabD α) (i : Nat) : Bool := (t.thing i).isSome
def find (N k : Nat) (t : TabD α) (h : Int) : Option Nat := (List.range N).find? fun i => t.taken i && decide (hnd k i (t.gen i) = h)
def free (N : Nat) (t : TabD α) : Option Nat := (List.range N).find? fun i => !t.taken i && decide (t.gen i ≤ 1023)
def set (t : TabD α) (i : Nat) (v : α) : TabD α := ⟨t.gen, fun j => if j = i then some v else t.thing j⟩
def drop (t : TabD α) (i : Nat) : TabD α := ⟨fun j => if j = i then t.gen i + 1 else t.gen j, fun j => if j = i then none else t.thing j⟩
def all (N : Nat) (t : TabD α) : List Nat := (List.range N).filter fun i => t.taken i
structure Ok (N : Nat) (t : TabD α) : Prop where
  lo : ∀ i, i < N → 1 ≤ t.gen i
  hi : ∀ i, i < N → t.gen i ≤ 1024
  tk : ∀ i, i < N → t.taken i = true → t.gen i ≤ 1023
end TabD

/-- Jobs and tasks. -/
def JobD.ok (j : JobD) : Prop := (1 ≤ j.len ∧ j.len ≤ 1048576) ∧ (0 ≤ j.cap ∧ j.cap ≤ 1048576) ∧ (0 ≤ j.asked ∧ j.asked ≤ 1073741824) ∧ 0 ≤ j.due ∧ j.due ≤ 1073741824
instance (j : JobD) : Decidable j.ok := by unfold JobD.ok; infer_instance
def TkD.ok (t : TkD) : Prop := (0 ≤ t.prio ∧ t.prio ≤ 31) ∧ t.jobs.length ≤ 8 ∧ (0 ≤ t.acc.gv ∧ t.acc.gv ≤ 1073741824) ∧ t.acc.own = t.acc.gv ∧ t.acc.lent = 0 ∧ 0 ≤ t.acc.done ∧ 0 ≤ t.acc.cut ∧ 0 ≤ t.acc.late ∧ t.acc.done ≤ t.acc.gv ∧ t.acc.cut ≤ t.acc.gv - t.acc.done ∧ t.acc.late ≤ t.acc.done + t.acc.cut ∧ ∀ j ∈ t.jobs, j.ok
def TkD.new (prio : Int) : TkD := ⟨prio, [], Acc6.zero⟩
/-- What pushing answers: the task, or the error. -/
def TkD.push (t : TkD) (j : JobD) (now : Int) : TkD × Int :=
  if ¬ (0 ≤ now ∧ now ≤ 1073741824) then (t, 1)
  else if ¬ JobD.ok { j with asked := now } then (t, 2)
  else if 8 ≤ t.jobs.length then (t, 40)
  else ({ t with jobs := t.jobs ++ [{ j with asked := now }] }, 0)
/-- A tick: the task, what became of its job (0, 1 done, 2 cut), how much too late. -/
def TkD.run (t : TkD) (now : Int) : TkD × Int × Int :=
  match t.jobs with
  | [] => (t, 0, 0)
  | j :: l =>
    let a := { t.acc with gv := t.acc.gv + 1, own := t.acc.own + 1 }
    let j' := { j with len := j.len - 1, cap := if 0 < j.cap then j.cap - 1 else j.cap }
    if j.len - 1 = 0 ∨ j.cap = 1 then
      let over := now + 1 - j.asked - j.due
      let late := if 0 < j.due ∧ 0 < over then over else 0
      let a1 := if j.len - 1 = 0 then { a with done := a.done + 1 } else { a with cut := a.cut + 1 }
      let a2 := if 0 < late then { a1 with late := a1.late + 1 } else a1
      (⟨t.prio, l, a2⟩, if j.len - 1 = 0 then 1 else 2, late)
    else (⟨t.prio, j' :: l, a⟩, 0, 0)

/-- Reservations and budgets. -/
def resOk (q p : Int) : Prop := 1 ≤ q ∧ p ≤ 1048576 ∧ q ≤ p
instance (q p : Int) : Decidable (resOk q p) := by unfold resOk; infer_instance
def share (q p : Int) : Int := (q * 1048576 + p - 1) / p
def BudD.ok (b : BudD) : Prop := resOk b.q b.p ∧ ((b.nq = 0 ∧ b.np = 0) ∨ (resOk b.nq b.np ∧ ¬ (b.nq = b.q ∧ b.np = b.p))) ∧ (0 ≤ b.left ∧ b.left ≤ b.q) ∧ (0 ≤ b.st ∧ b.st ≤ 1073741824) ∧ b.fin = b.st + b.p
def BudD.new (q p at_ : Int) : BudD := ⟨q, p, 0, 0, false, q, at_, at_ + p⟩
def BudD.take (b : BudD) : BudD := { b with left := b.left - 1 }
def BudD.resize (b : BudD) (q p : Int) : BudD := if q = b.q ∧ p = b.p then { b with nq := 0, np := 0 } else { b with nq := q, np := p }
def BudD.kill (b : BudD) : BudD := { b with dying := true }
/-- Over the boundary, of one that stays. -/
def BudD.cross (b : BudD) (at_ : Int) : BudD := if b.nq = 0 ∧ b.np = 0 then ⟨b.q, b.p, 0, 0, false, b.q, at_, at_ + b.p⟩ else ⟨b.nq, b.np, 0, 0, false, b.nq, at_, at_ + b.np⟩
def BudD.held (b : BudD) : Int := if b.nq = 0 ∧ b.np = 0 then share b.q b.p else max (share b.q b.p) (share b.nq b.np)

namespace TabD
/-- The first ready task: of the least priority, the lowest slot. -/
def ready (N : Nat) (t : TabD TkD) : Option Nat :=
  (t.all N).foldl (fun (best : Option Nat) i =>
    match t.thing i with
    | none => best
    | some x => if x.jobs = [] then best else
      match best with
      | none => some i
      | some b => match t.thing b with
        | none => some i
        | some y => if x.prio < y.prio then some i else best) none
end TabD

namespace KD
def node (s : KD) (i : Nat) : Option NdD := s.t.thing i
def hof (s : KD) (i : Nat) : Int := hnd 1 i (s.t.gen i)
def find (s : KD) (h : Int) : Option Nat := s.t.find 64 1 h
/-- The children of a slot's node. -/
def kids (s : KD) (p : Nat) : List Nat := (List.range 64).filter fun i => match s.t.thing i with
  | some n => decide (n.parent = some p)
  | none => false
/-- The way up, from a node to the root; so many steps at most. -/
def ups (s : KD) : Nat → Nat → List Nat
  | 0, _ => []
  | f + 1, i => match s.t.thing i with
    | none => []
    | some n => match n.parent with
      | none => [i]
      | some p => i :: ups s f p
def path (s : KD) (i : Nat) : List Nat := (ups s 10 i).reverse
def leaving (s : KD) (i : Nat) : Bool := (s.path i).any fun j => match s.t.thing j with
  | some n => n.b.dying
  | none => false
/-- What is reserved below a node, another budget in the place of one's own. -/
def kept (s : KD) (p : Nat) (other : Option Nat) (c : BudD) : Int :=
  ((s.kids p).map fun i => if some i = other then c.held else match s.t.thing i with
    | some n => n.b.held
    | none => 0).sum
/-- A node and all below it. -/
def walk (s : KD) : Nat → Nat → List Nat
  | 0, _ => []
  | f + 1, i => i :: (s.kids i).flatMap (walk s f)
def all (s : KD) : List Nat := walk s 9 0
def setNode (s : KD) (i : Nat) (n : NdD) : KD := { s with t := s.t.set i n }
def new : KD := ⟨⟨fun _ => 1, fun i => if i = 0 then some ⟨none, BudD.zero, 0, TabD.new, Acc6.zero, Acc6.zero⟩ else none⟩, TabD.new, -1, 0, 0⟩

def create (s : KD) (h q p : Int) : KD × Int × Int :=
  match s.find h with
  | none => (s, 0, 20)
  | some i =>
    if s.leaving i = true then (s, 0, 92)
    else if ¬ resOk q p then (s, 0, 2)
    else if 8 < (s.path i).length then (s, 0, 90)
    else match s.t.free 64, s.t.thing i with
      | some j, some n => if 1048576 < s.kept i none BudD.zero + share q p then (s, 0, 80)
        else (s.setNode j ⟨some i, BudD.new q p n.clock, 0, TabD.new, Acc6.zero, Acc6.zero⟩, s.hof j, 0)
      | _, _ => (s, 0, 30)
def change (s : KD) (h : Int) : Option Nat × Int :=
  match s.find h with
  | none => (none, 20)
  | some i => if i = 0 then (none, 91) else if s.leaving i = true then (none, 92) else (some i, 0)
def resize (s : KD) (h q p : Int) : KD × Int :=
  match s.change h with
  | (none, e) => (s, e)
  | (some i, _) => match s.t.thing i with
    | none => (s, 20)
    | some n => if ¬ resOk q p then (s, 2)
      else match n.parent with
      | none => (s, 91)
      | some u => if 1048576 < s.kept u (some i) (n.b.resize q p) then (s, 80) else (s.setNode i { n with b := n.b.resize q p }, 0)
def delete (s : KD) (h : Int) : KD × Int :=
  match s.change h with
  | (none, e) => (s, e)
  | (some i, _) => match s.t.thing i with
    | none => (s, 20)
    | some n => (s.setNode i { n with b := n.b.kill }, 0)
end KD
end Go.Proofs.YtmfmmopnapchjaaDoor
