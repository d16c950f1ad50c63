/- The kernel as plain data: tasks, best effort, a tick. -/
import Derived.Test.YtmfmmopnapchjaaDoorPa
namespace Go.Proofs.YtmfmmopnapchjaaDoor
open Go

def w64 (n : Int) : Int := IntKind.i64.wrap n
def Acc6.plus (a b : Acc6) : Acc6 := ⟨w64 (a.gv + b.gv), w64 (a.own + b.own), w64 (a.lent + b.lent), w64 (a.done + b.done), w64 (a.cut + b.cut), w64 (a.late + b.late)⟩
def Acc6.note (a : Acc6) (kind : Int) (late : Bool) : Acc6 :=
  let b := if kind = 9 then { a with cut := a.cut + 1 } else { a with done := a.done + 1 }
  if late = true then { b with late := b.late + 1 } else b
def Acc6.tick (a : Acc6) : Acc6 := { a with gv := a.gv + 1 }
def Acc6.last (a : Acc6) (lent : Bool) : Acc6 := { a with own := a.own + 1, lent := if lent = true then a.lent + 1 else a.lent }

namespace KD
/-- How far behind the last one a slot is, going round. -/
def far (last : Int) (i : Nat) : Int := ((i : Int) - last - 1 + 16) % 16
/-- The best-effort task that has the next tick. -/
def next (s : KD) : Option Nat :=
  (s.pool.all 16).foldl (fun (best : Option Nat) i =>
    match s.pool.thing i with
    | none => best
    | some x => if x.jobs = [] then best else
      match best with
      | none => some i
      | some b => match s.pool.thing b with
        | none => some i
        | some y => if x.prio < y.prio ∨ (x.prio = y.prio ∧ far s.last i < far s.last b) then some i else best) none

def addTask (N k : Nat) (t : TabD TkD) (prio : Int) : TabD TkD × Int × Int :=
  if ¬ (0 ≤ prio ∧ prio ≤ 31) then (t, 0, 2)
  else match t.free N with
    | none => (t, 0, 30)
    | some j => (t.set j (TkD.new prio), hnd k j (t.gen j), 0)
def dropTask (N k : Nat) (t : TabD TkD) (h : Int) : TabD TkD × Int :=
  match t.find N k h with
  | none => (t, 20)
  | some j => (t.drop j, 0)
def pushTask (N k : Nat) (t : TabD TkD) (h : Int) (j : JobD) (now : Int) : TabD TkD × Int :=
  match t.find N k h with
  | none => (t, 20)
  | some i => match t.thing i with
    | none => (t, 20)
    | some x => if (x.push j now).2 ≠ 0 then (t, (x.push j now).2) else (t.set i (x.push j now).1, 0)

def task (s : KD) (h prio : Int) : KD × Int × Int :=
  if h = 0 then ({ s with pool := (addTask 16 3 s.pool prio).1 }, (addTask 16 3 s.pool prio).2)
  else match s.find h with
    | none => (s, 0, 20)
    | some i => match s.t.thing i with
      | none => (s, 0, 20)
      | some n => if i = 0 then (s, 0, 91)
        else (s.setNode i { n with leaf := (addTask 8 2 n.leaf prio).1 }, (addTask 8 2 n.leaf prio).2)
def untask (s : KD) (h t : Int) : KD × Int :=
  if h = 0 then ({ s with pool := (dropTask 16 3 s.pool t).1 }, (dropTask 16 3 s.pool t).2)
  else match s.find h with
    | none => (s, 20)
    | some i => match s.t.thing i with
      | none => (s, 20)
      | some n => (s.setNode i { n with leaf := (dropTask 8 2 n.leaf t).1 }, (dropTask 8 2 n.leaf t).2)
def job (s : KD) (h t : Int) (j : JobD) : KD × Int :=
  if h = 0 then ({ s with pool := (pushTask 16 3 s.pool t j s.now).1 }, (pushTask 16 3 s.pool t j s.now).2)
  else match s.find h with
    | none => (s, 20)
    | some i => match s.t.thing i with
      | none => (s, 20)
      | some n => (s.setNode i { n with leaf := (pushTask 8 2 n.leaf t j s.now).1 }, (pushTask 8 2 n.leaf t j s.now).2)

/-- Who is picked of the children: the earliest end, then the lowest slot. -/
def pick (s : KD) (l : List Nat) : Option Nat :=
  l.foldl (fun (best : Option Nat) i =>
    match s.t.thing i with
    | none => best
    | some n => if n.b.left ≤ 0 then best else
      match best with
      | none => some i
      | some b => match s.t.thing b with
        | none => some i
        | some m => if n.b.fin < m.b.fin ∨ (n.b.fin = m.b.fin ∧ i < b) then some i else best) none
/-- The way down to the node that has the tick, from a node on. -/
def way : Nat → KD → Nat → KD × List Nat
  | 0, s, i => (s, [i])
  | f + 1, s, i => match s.pick (s.kids i) with
    | none => (s, [i])
    | some c => match s.t.thing c with
      | none => (s, [i])
      | some n => let r := way f (s.setNode c { n with b := n.b.take }) c; (r.1, i :: r.2)
def mapAcc (s : KD) (i : Nat) (f : Acc6 → Acc6) : KD :=
  match s.t.thing i with
  | none => s
  | some n => s.setNode i { n with acc := f n.acc }
/-- A tick is charged to a way. -/
def bill (s : KD) (l : List Nat) (lent : Bool) : KD :=
  match l with
  | [] => s
  | [i] => s.mapAcc i (fun a => a.tick.last lent)
  | i :: l => bill (s.mapAcc i Acc6.tick) l lent
/-- A tick to best effort. -/
def spare (s : KD) (with_ without : Int) (node : Int) : KD × List Mk :=
  match s.next with
  | none => ({ s with idle := s.idle + 1 }, [⟨s.now, without, node, 0, 0⟩])
  | some i => match s.pool.thing i with
    | none => ({ s with idle := s.idle + 1 }, [⟨s.now, without, node, 0, 0⟩])
    | some x =>
      let h := hnd 3 i (s.pool.gen i)
      let r := x.run s.now
      ({ s with pool := s.pool.set i r.1, last := i },
        ⟨s.now, with_, node, h, 0⟩ :: (if r.2.1 = 1 then [⟨s.now, 8, 0, h, r.2.2⟩] else if r.2.1 = 2 then [⟨s.now, 9, 0, h, r.2.2⟩] else []))
def charge (s : KD) (l : List Nat) : KD × List Mk :=
  let e := l.getLast?.getD 0
  if e = 0 then
    let r := s.spare 4 4 (s.hof 0)
    (r.1.bill l false, r.2)
  else match s.t.thing e with
    | none => (s, [])
    | some n => match n.leaf.ready 8 with
      | none =>
        let r := s.spare 2 3 (s.hof e)
        (r.1.bill l true, r.2)
      | some i => match n.leaf.thing i with
        | none => (s, [])
        | some x =>
          let h := hnd 2 i (n.leaf.gen i)
          let r := x.run s.now
          let kind := if r.2.1 = 1 then 8 else if r.2.1 = 2 then 9 else 0
          let s1 := (s.setNode e { n with leaf := n.leaf.set i r.1 }).bill l false
          let s2 := if kind = 0 then s1 else s1.mapAcc e (fun a => a.note kind (decide (0 < r.2.2)))
          (s2, ⟨s.now, 1, s.hof e, h, 0⟩ :: (if kind = 0 then [] else [⟨s.now, kind, s.hof e, h, r.2.2⟩]))
/-- An account is closed: its numbers go to the parent. -/
def close (s : KD) (i : Nat) : KD :=
  match s.t.thing i with
  | none => s
  | some n => match n.parent with
    | none => s
    | some u => match s.t.thing u with
      | none => s
      | some m => s.setNode u { m with closed := m.closed.plus (n.acc.plus { n.closed with gv := 0 }) }
def dropNode (s : KD) (i : Nat) : KD := { s with t := s.t.drop i }
/-- The boundary of a node, if it is come. -/
def cross (s : KD) (i : Nat) (clock : Int) : KD × List Mk :=
  match s.t.thing i with
  | none => (s, [])
  | some n =>
    if n.b.fin ≠ clock then (s, [])
    else
      let e : Mk := ⟨s.now, 5, s.hof i, 0, n.b.q - n.b.left⟩
      if n.b.dying = true then
        let l := s.walk 9 i
        (l.foldl dropNode (l.reverse.foldl close s), e :: l.map fun x => ⟨s.now, 7, s.hof x, 0, 0⟩)
      else (s.setNode i { n with b := n.b.cross clock }, e :: (if n.b.nq = 0 ∧ n.b.np = 0 then [] else [⟨s.now, 6, s.hof i, 0, n.b.nq⟩]))
def crossAll (s : KD) (l : List Nat) (clock : Int) : KD × List Mk :=
  l.foldl (fun r i => ((r.1.cross i clock).1, r.2 ++ (r.1.cross i clock).2)) (s, [])
/-- A node of the way: its clock, its children's boundaries. -/
def step (s : KD) (i : Nat) : KD × List Mk :=
  match s.t.thing i with
  | none => (s, [])
  | some n => let s1 := s.setNode i { n with clock := n.clock + 1 }; s1.crossAll (s1.kids i) (n.clock + 1)
def tick (s : KD) : KD × List Mk :=
  let w := way 9 s 0
  let c := w.1.charge w.2
  let r := w.2.reverse.foldl (fun r i => ((r.1.step i).1, r.2 ++ (r.1.step i).2)) (c.1, c.2)
  ({ r.1 with now := r.1.now + 1 }, r.2)
end KD
end Go.Proofs.YtmfmmopnapchjaaDoor
