/- The walk of TraceAdds. -/
import Derived.Test.YtohodbpjcbjifaaDoorRx
import Derived.Test.YtohodbpjcbjifaaDoorTd
import Derived.Test.YtohodbpjcbjifaaDoorOr
import Derived.Deep.RegionHeld3
import Derived.Deep.RegionLaw
import Derived.Deep.RegionWith
import Derived.Deep.DeepCutAuto
namespace Go.Proofs.YtohodbpjcbjifaaDoor
open Go Go.RowKit Go.ChangeShapes Go.WideShapes
set_option linter.unusedVariables false
set_option maxRecDepth 100000
set_option maxHeartbeats 1600000

theorem new_bad (W : World) (keep : Int) (h : ¬ (1 ≤ keep ∧ keep ≤ 4096)) :
    Calls Tryd.prog 4 #[.int .i64 keep] W fun e w' => e = .returned (.tuple #[.pointer none, errN 1]) ∧ W = w' := by
  by_cases h1 : keep < 1
  · clear h
    go_enter Tryd.func4, Tryd.ntmps4
    go_wp2_with fail
    go_ret2
    exact ⟨rfl, rfl⟩
  · have h2 : 4096 < keep := by omega
    clear h
    go_enter Tryd.func4, Tryd.ntmps4
    go_wp2_with fail
    go_ret2
    exact ⟨rfl, rfl⟩

theorem traceAdds_bad (keep : Int) (v : Value) (W : World) (hE : ETy W) (h : ¬ (1 ≤ keep ∧ keep ≤ 4096)) :
    Calls Tryd.prog 3 #[.int .i64 keep, v] W fun e w' => e = .returned (.bool true) ∧ Below W.heap.size W w' := by
  have N1 := Lib.hid (new_bad W keep h)
  have N2 := Lib.hid (fun w => rnew_bad w keep h)
  have N3 := Lib.hid (fun n w h => num1 n w h)
  have SU := Lib.hid sure_ok
  have HE := Lib.hid hE
  clear h hE
  go_enter Tryd.func3, Tryd.ntmps3
  go_wp2_with fail
  refine N1.out.mono ?_
  rintro e w' ⟨rfl, rfl⟩
  go_wp2_with fail
  refine (N2.out _).mono ?_
  rintro e w1 ⟨rfl, hb1⟩
  have HE1 := HE.out.below hb1 (Nat.le_refl _)
  simp only [rtV]
  go_wp2_with fail
  have hb2 := hb1.alloc hb1.size (rtC 0 0 (.slice none 0 0) 0)
  refine (N3.out 1 _ (HE.out.below hb2 (Nat.le_refl _))).mono ?_
  rintro e w2 ⟨rfl, hb3⟩
  have HB := Lib.hid (hb2.trans (hb3.mono hb2.size))
  clear hb1 hb2 hb3 HE1
  go_wp2_with fail
  refine (SU.out _).mono ?_
  rintro e w3 ⟨rfl, hb4⟩
  go_wp2_with fail
  go_ret
  exact ⟨rfl, HB.out.trans (hb4.mono HB.out.size)⟩

theorem RM_lt {w : World} {v : Value} {l : List Mk} (h : RM w v l) : ∀ x, v.ownBlock = some x → l ≠ [] → x < w.heap.size := by
  intro x hx hl
  rcases h with ⟨rfl, _⟩ | ⟨b, off, cap, rfl, hcap, hb, hc⟩
  · exact absurd rfl hl
  · simp [Value.ownBlock] at hx; subst hx; exact hb
theorem RM.of_block' {w w' : World} {v : Value} {l : List Mk} (h : RM w v l) (hs : w.heap.size ≤ w'.heap.size) (e : ∀ k, v.ownBlock = some k → l ≠ [] → w'.heap[k]? = w.heap[k]?) : RM w' v l := by
  by_cases hl : l = []
  · subst hl
    rcases h with h | ⟨b, off, cap, rfl, hcap, hb, hc⟩
    · exact .inl h
    · exact .inr ⟨b, off, cap, rfl, hcap, by omega, fun i hi => by simp at hi⟩
  · exact h.of_block hs (fun k hk => e k hk hl)
theorem own_lt' {w : World} {B : Nat} {e : TypeId} {s : Nat} {v : Value} {n : Nat} {xs : List Value} (h : w.ownsRow B e s v n xs) : ∀ k, v.ownBlock = some k → k < w.heap.size := by
  intro k hk
  obtain ⟨h1, h2⟩ := h
  rcases h2 with ⟨rfl, _⟩ | ⟨g, cap, cur, rfl, hg, hh, r⟩
  · simp [Value.ownBlock] at hk
  · simp [Value.ownBlock] at hk
    subst hk
    exact (Array.getElem?_eq_some_iff.1 hh).1
theorem own_ge {w : World} {B n : Nat} {e : TypeId} {s : Nat} {v : Value} {xs : List Value} (h : w.ownsRow B e s v n xs) : ∀ k, v.ownBlock = some k → B ≤ k := by
  intro k hk
  rcases h.2 with ⟨rfl, _⟩ | ⟨g, cap, cur, rfl, hb, _⟩
  · simp [Value.ownBlock] at hk
  · simp [Value.ownBlock] at hk; omega
/-- Behind k rows: the trace at N + 1, its queue at N, the reference's at br. -/
structure AR (W wr : World) (K br k : Nat) (gs : List Nat) (gone last : Int) (l : List Mk) (lv : Value) : Prop where
  ts : TS wr (W.heap.size + 1) W.heap.size gs K gone last l
  t4 : T4 wr br K gone lv last
  rm : RM wr lv l
  dis : ∀ x, lv.ownBlock = some x → l ≠ [] → ¬ tb (W.heap.size + 1) W.heap.size gs x ∧ x ≠ br
  gsb : ∀ x ∈ gs, W.heap.size ≤ x ∧ x ≠ br
  go : 0 ≤ gone ∧ gone ≤ k * 1048576
  be : Below W.heap.size W wr
  brW : W.heap.size + 1 < br
theorem AR.tbge {W wr : World} {K br k : Nat} {gs : List Nat} {gone last : Int} {l : List Mk} {lv : Value} (h : AR W wr K br k gs gone last l lv) : ∀ x, tb (W.heap.size + 1) W.heap.size gs x → W.heap.size ≤ x ∧ x ≠ br := by
  rintro x (rfl | rfl | hx)
  · have := h.brW; omega
  · have := h.brW; omega
  · exact h.gsb x hx
/-- Behind the trace's Add. -/
structure AR2 (W wr wA wB : World) (K br k : Nat) (gs gs' : List Nat) (gone last : Int) (l ms : List Mk) (lv vm : Value) (s : Out) : Prop where
  ts : TS wB (W.heap.size + 1) W.heap.size gs' K s.gone s.last s.l
  t4 : T4 wB br K gone lv last
  rm : RM wB lv l
  mine : RM wB vm ms
  dis : ∀ x, lv.ownBlock = some x → l ≠ [] → ¬ tb (W.heap.size + 1) W.heap.size gs' x ∧ x ≠ br
  gsb : ∀ x ∈ gs', W.heap.size ≤ x ∧ x ≠ br
  be : Below W.heap.size W wB
  vb : ∀ x, vm.ownBlock = some x → ¬ tb (W.heap.size + 1) W.heap.size gs' x ∧ x ≠ br
theorem AR.add {W wr wA wB : World} {K br k : Nat} {gs gs' : List Nat} {gone last : Int} {l ms : List Mk} {lv vm : Value} {s : Out} (h : AR W wr K br k gs gone last l lv) (hb : Below wr.heap.size wr wA) (ts : TS wB (W.heap.size + 1) W.heap.size gs' K s.gone s.last s.l)
    (hg : ∀ x ∈ gs', x ∈ gs ∨ wA.heap.size ≤ x) (ch : Ch (tb (W.heap.size + 1) W.heap.size gs) wA wB) (hm : RM wA vm ms) (hml : ∀ x, vm.ownBlock = some x → wr.heap.size ≤ x ∧ x < wA.heap.size) : AR2 W wr wA wB K br k gs gs' gone last l ms lv vm s := by
  have z1 := hb.size
  have z2 := h.be.size
  have hbr := h.t4.lt
  have br1 : ¬ tb (W.heap.size + 1) W.heap.size gs br := fun e => (h.tbge br e).2 rfl
  have nt : ∀ x, x < wA.heap.size → ¬ tb (W.heap.size + 1) W.heap.size gs x → ¬ tb (W.heap.size + 1) W.heap.size gs' x := by
    rintro x hx hn (e | e | e)
    · exact hn (.inl e)
    · exact hn (.inr (.inl e))
    · rcases hg x e with e | e
      · exact hn (.inr (.inr e))
      · omega
  have lvlt : ∀ x, lv.ownBlock = some x → l ≠ [] → x < wr.heap.size := fun x hx => RM_lt h.rm x hx
  have vmn : ∀ x, vm.ownBlock = some x → ¬ tb (W.heap.size + 1) W.heap.size gs x := fun x hx e => by have := h.ts.lt x e; have := (hml x hx).1; omega
  refine ⟨ts, ?_, ?_, ?_, fun x hx hl => ⟨nt x (by have := lvlt x hx hl; omega) (h.dis x hx hl).1, (h.dis x hx hl).2⟩, fun x hx => ?_, (h.be.trans (hb.mono z2)).trans (ch.below (fun x e => (h.tbge x e).1) (by omega)), fun x hx => ⟨nt x (hml x hx).2 (vmn x hx), by have := (hml x hx).1; omega⟩⟩
  · exact h.t4.of_block (by have := ch.size; omega) ((ch.block br (by omega) br1).trans (hb.block br hbr))
  · exact h.rm.of_block' (by have := ch.size; omega) (fun x hx hl => (ch.block x (by have := lvlt x hx hl; omega) (h.dis x hx hl).1).trans (hb.block x (lvlt x hx hl)))
  · exact hm.of_block ch.size (fun x hx => ch.block x (hml x hx).2 (vmn x hx))
  · rcases hg x hx with e | e
    · exact h.gsb x e
    · exact ⟨by omega, by omega⟩

theorem zeroT4 {wB wC : World} (h : Below ((wB.alloc (rtC 0 0 (.slice none 0 0) 0)).drew).heap.size (wB.alloc (rtC 0 0 (.slice none 0 0) 0)).drew wC) : T4 wC wB.heap.size 0 0 (.slice none 0 0) 0 :=
  (show T4 (wB.alloc (rtC 0 0 (.slice none 0 0) 0)).drew wB.heap.size 0 0 (.slice none 0 0) 0 from (T4_new wB 0 0 (.slice none 0 0) 0).of_block (Nat.le_refl _) rfl).of_block h.size (h.block _ (by show _ < (wB.alloc _).heap.size; simp))
/-- What the statement 'x, h := titheref19.Add(..)' leaves. -/
def CutR (wB : World) (K : Nat) (lv : Value) (l : List Mk) (s : Out) (s12 s13 : Value) (wx : World) : Prop :=
  ∃ b12 lv', s12 = .pointer (some ⟨b12, 0, none⟩) ∧ s13 = .int .i64 s.n ∧ T4 wx b12 K s.gone lv' s.last ∧ RM wx lv' s.l ∧ Below wB.heap.size wB wx ∧ wB.heap.size ≤ b12 ∧ ∀ x, lv'.ownBlock = some x → s.l ≠ [] → ((lv.ownBlock = some x ∧ l ≠ []) ∨ wB.heap.size ≤ x) ∧ x ≠ b12

theorem cutA {wB wC : World} {K : Nat} {lv lv' : Value} {s : Out} {l : List Mk} (zlt : wB.heap.size < wC.heap.size) (z0 : wC.cell? ⟨wB.heap.size, 0, none⟩ = some (.int .i64 0)) (z1 : wC.cell? ⟨wB.heap.size, 1, none⟩ = some (.int .i64 0)) (z2 : wC.cell? ⟨wB.heap.size, 2, none⟩ = some (.slice none 0 0)) (z3 : wC.cell? ⟨wB.heap.size, 3, none⟩ = some (.int .i64 0)) (zf : ∀ o, wC.frozen? ⟨wB.heap.size, o, none⟩ = false)
    (rm : RM wC lv' s.l) (be : Below ((wB.alloc (rtC 0 0 (.slice none 0 0) 0)).drew).heap.size (wB.alloc (rtC 0 0 (.slice none 0 0) 0)).drew wC) (hl : ∀ x, lv'.ownBlock = some x → (lv.ownBlock = some x ∧ s.l = l) ∨ ((wB.alloc (rtC 0 0 (.slice none 0 0) 0)).drew).heap.size ≤ x) (lvlt : Hid (∀ x, lv.ownBlock = some x → l ≠ [] → x < wB.heap.size)) :
    CutR wB K lv l s (.pointer (some ⟨wB.heap.size, 0, none⟩)) (.int .i64 s.n) (put4 wC wB.heap.size K s.gone lv' s.last) := by
  have T : T4 wC wB.heap.size 0 0 (.slice none 0 0) 0 := ⟨zlt, z0, z1, z2, z3, zf⟩
  have be' : Below wB.heap.size wB wC := ((Below.refl _ _).alloc (Nat.le_refl _) (rtC 0 0 (.slice none 0 0) 0)).drew.trans (be.mono (by show _ ≤ (wB.alloc _).heap.size; simp))
  have z : ((wB.alloc (rtC 0 0 (.slice none 0 0) 0)).drew).heap.size = wB.heap.size + 1 := by show (wB.alloc _).heap.size = _; simp
  refine ⟨wB.heap.size, lv', rfl, rfl, T.put _ _ _ _, rm.of_block' (by rw [put4_size]; exact Nat.le_refl _) (fun x hx hs => put4_block _ _ _ _ _ _ _ ?_), be'.put4 _ _ _ _ _ (Nat.le_refl _), Nat.le_refl _, fun x hx hs => ?_⟩
  · rcases hl x hx with ⟨h, e⟩ | h
    · have := lvlt.out x h (e ▸ hs); omega
    · omega
  · rcases hl x hx with ⟨h, e⟩ | h
    · have := lvlt.out x h (e ▸ hs); exact ⟨.inl ⟨h, e ▸ hs⟩, by omega⟩
    · exact ⟨.inr (by omega), by omega⟩
theorem cutB {wB wC : World} {K : Nat} {lv lv' : Value} {s : Out} {l : List Mk} (rm : RM wC lv' s.l) (be : Below wB.drew.heap.size wB.drew wC) (hl : ∀ x, lv'.ownBlock = some x → (lv.ownBlock = some x ∧ s.l = l) ∨ wB.drew.heap.size ≤ x) (lvlt : Hid (∀ x, lv.ownBlock = some x → l ≠ [] → x < wB.heap.size)) :
    CutR wB K lv l s (.pointer (some ⟨wC.heap.size, 0, none⟩)) (.int .i64 s.n) (wC.alloc (rtC K s.gone lv' s.last)) := by
  have be' : Below wB.heap.size wB wC := (Below.refl _ _).drew.trans be
  have z : wB.drew.heap.size = wB.heap.size := rfl
  refine ⟨wC.heap.size, lv', rfl, rfl, T4_new _ _ _ _ _, rm.below ((Below.refl _ _).alloc (Nat.le_refl _) _), be'.alloc be'.size _, be'.size, fun x hx hs => ?_⟩
  have hlt := RM_lt rm x hx hs
  rcases hl x hx with ⟨h, e⟩ | h
  · exact ⟨.inl ⟨h, e ▸ hs⟩, by omega⟩
  · exact ⟨.inr (by omega), by omega⟩

/-- Behind 'r = x'. -/
structure AR3 (W wD : World) (K br : Nat) (gs' : List Nat) (lv' vm u : Value) (ms : List Mk) (s : Out) : Prop where
  ts : TS wD (W.heap.size + 1) W.heap.size gs' K s.gone s.last s.l
  t4 : T4 wD br K s.gone lv' s.last
  rm : RM wD lv' s.l
  mine : RM wD vm ms
  row : RM wD u ms
  dis : ∀ x, lv'.ownBlock = some x → s.l ≠ [] → ¬ tb (W.heap.size + 1) W.heap.size gs' x ∧ x ≠ br
  gsb : ∀ x ∈ gs', W.heap.size ≤ x ∧ x ≠ br
  be : Below W.heap.size W wD
theorem AR2.cut {W wr wA wB wc : World} {K br k b12 : Nat} {gs gs' : List Nat} {gone last : Int} {l ms : List Mk} {lv lv' vm u : Value} {s : Out} (h : AR2 W wr wA wB K br k gs gs' gone last l ms lv vm s) (hbr : W.heap.size + 1 < br) (hu : RM W u ms)
    (rm : RM wc lv' s.l) (be : Below wB.heap.size wB wc) (hd : ∀ x, lv'.ownBlock = some x → s.l ≠ [] → ((lv.ownBlock = some x ∧ l ≠ []) ∨ wB.heap.size ≤ x) ∧ x ≠ b12) : AR3 W (put4 wc br K s.gone lv' s.last) K br gs' lv' vm u ms s := by
  have hbl := h.t4.lt
  have z := be.size
  have z2 := h.be.size
  have eb : ∀ x, x ≠ br → (put4 wc br K s.gone lv' s.last).heap[x]? = wc.heap[x]? := fun x hx => put4_block _ _ _ _ _ _ _ hx
  have ez : (put4 wc br K s.gone lv' s.last).heap.size = wc.heap.size := put4_size _ _ _ _ _ _
  have tbr : ∀ x, tb (W.heap.size + 1) W.heap.size gs' x → x ≠ br := by
    rintro x (e | e | e)
    · omega
    · omega
    · exact (h.gsb x e).2
  have dis' : ∀ x, lv'.ownBlock = some x → s.l ≠ [] → ¬ tb (W.heap.size + 1) W.heap.size gs' x ∧ x ≠ br := by
    intro x hx hs
    rcases (hd x hx hs).1 with ⟨e, hl⟩ | e
    · exact h.dis x e hl
    · exact ⟨fun t => by have := h.ts.lt x t; omega, by omega⟩
  have tsc := h.ts.below be
  refine ⟨tsc.of_block (by omega) (fun x hx => eb x (tbr x hx)), (h.t4.of_block z (be.block _ hbl)).put _ _ _ _, rm.of_block' (by omega) (fun x hx hs => eb x (dis' x hx hs).2), ?_, ?_, dis', h.gsb, (h.be.trans (be.mono z2)).put4 _ _ _ _ _ (by omega)⟩
  · exact (h.mine.below be).of_block (by omega) (fun x hx => eb x (h.vb x hx).2)
  · exact ((hu.below h.be).below be).of_block' (by omega) (fun x hx hs => eb x (fun e => by have := RM_lt hu x hx hs; omega))
theorem AR3.next {W wD wH : World} {K br k : Nat} {gs' : List Nat} {lv' vm u : Value} {ms : List Mk} {s : Out} {gone : Int} (h : AR3 W wD K br gs' lv' vm u ms s) (be : Below wD.heap.size wD wH) (hbr : W.heap.size + 1 < br) (hg : 0 ≤ gone ∧ gone ≤ k * 1048576) (hs : gone ≤ s.gone ∧ s.gone ≤ gone + ms.length) (hm : ms.length ≤ 1048576) : AR W wH K br (k + 1) gs' s.gone s.last s.l lv' :=
  ⟨h.ts.below be, h.t4.of_block be.size (be.block _ h.t4.lt), h.rm.below be, h.dis, h.gsb, ⟨by omega, by omega⟩, h.be.trans (be.mono h.be.size), hbr⟩
/-- A row of the call's own as marks that may be overwritten. -/
theorem Ring_own' {w : World} {B n g c : Nat} {l : List Mk} (h : w.ownsRow B 42 5 (.slice (some ⟨g, 0, none⟩) n c) n (flat l)) : Ring w g n (fun j => l.getD j default) := by
  have rm := RM_own h
  obtain ⟨h1, h2⟩ := h
  rcases h2 with ⟨h, _⟩ | ⟨g', cap', cur, e, hg, hh, hn, hc, hs, ht⟩
  · cases h
  · injection e with e1 e2 e3
    injection e1 with e1
    injection e1 with e4 e5
    subst e3 e4
    refine ⟨(Array.getElem?_eq_some_iff.1 hh).1, fun o => by simp [World.frozen?, hh], ?_⟩
    rcases rm.1 with ⟨h0, _⟩ | ⟨b, off, c2, e', _, _, hr⟩
    · intro j hj; rw [h0] at rm; simp at rm; omega
    · injection e' with e1 e2 e3
      injection e1 with e1
      injection e1 with e4 e5
      subst e4 e5
      intro j hj
      have := hr j (by omega)
      simpa using this
theorem Ring.setT {w : World} {g R : Nat} {ms : Nat → Mk} (h : Ring w g R ms) (j : Nat) (hj : j < R) (x : Int) : Ring (w.setCell ⟨g, j * 5, none⟩ (.int .i64 x)) g R (fun i => if i = j then { ms i with t := x } else ms i) := by
  have ne : ∀ i k : Nat, i ≠ k → (⟨g, i, none⟩ : Addr) ≠ ⟨g, k, none⟩ := fun i k hik e => by injection e with _ e2; omega
  refine ⟨by simpa [World.setCell] using h.lt, set_frozen h.fr _ _, fun i hi => ?_⟩
  have a := h.at5 i hi
  show At5 _ _ _ (if i = j then { ms i with t := x } else ms i)
  by_cases e : i = j
  · subst e
    rw [if_pos rfl]
    exact ⟨same_set a.c0, other_set (ne _ _ (by omega)) a.c1, other_set (ne _ _ (by omega)) a.c2, other_set (ne _ _ (by omega)) a.c3, other_set (ne _ _ (by omega)) a.c4⟩
  · rw [if_neg e]
    exact ⟨other_set (ne _ _ (by omega)) a.c0, other_set (ne _ _ (by omega)) a.c1, other_set (ne _ _ (by omega)) a.c2, other_set (ne _ _ (by omega)) a.c3, other_set (ne _ _ (by omega)) a.c4⟩

theorem own_below' {w w' : World} {B : Nat} {e : TypeId} {s : Nat} {v : Value} {n : Nat} {xs : List Value} (h : w.ownsRow B e s v n xs) (c : Below w.heap.size w w') : w'.ownsRow B e s v n xs := by
  obtain ⟨h1, h2⟩ := h
  refine ⟨h1, ?_⟩
  rcases h2 with h | ⟨g, cap, cur, rfl, hg, hh, r⟩
  · exact .inl h
  · exact .inr ⟨g, cap, cur, rfl, hg, (c.block g (Array.getElem?_eq_some_iff.1 hh).1).trans hh, r⟩
theorem traceAdds_ok (K : Nat) (v : Value) (ls : List (List Mk)) (W : World) (hE : ETy W) (h1 : 1 ≤ K) (h2 : K ≤ 4096) (hv : RR W v ls) (hn : ls.length ≤ 1048576) (hm : ∀ i, i < ls.length → (ls.getD i []).length ≤ 1048576) :
    Calls Tryd.prog 3 #[.int .i64 K, v] W fun e w' => e = .returned (.bool true) ∧ Below W.heap.size W w' := by
  obtain ⟨i0, hi, hz0, hz1, hz2⟩ := info_of Tryd.infoMark
  obtain ⟨p, c, rfl, hrow⟩ := hv
  have N1 := Lib.hid (new_t W K h1 h2)
  have N2 := Lib.hid (fun w => rnew_ok w K (by omega) (by omega))
  have SU := Lib.hid sure_ok
  have HE := Lib.hid hE
  have HR := Lib.hid hrow
  have HM := Lib.hid hm
  clear hE hrow hm
  go_enter Tryd.func3, Tryd.ntmps3
  go_wp2_with fail
  refine N1.out.mono ?_
  rintro e w1 ⟨rfl, ts1, hb1⟩
  have TS1 := Lib.hid ts1
  have HB1 := Lib.hid hb1
  clear ts1 hb1
  go_wp2_with fail
  refine (N2.out _).mono ?_
  rintro e w2 ⟨rfl, hb2⟩
  have TS2 := TS1.out.below hb2
  have HB2 := Lib.hid (HB1.out.trans (hb2.mono HB1.out.size))
  simp only [rtV]
  have TS3 := Lib.hid (TS2.below ((Below.refl _ _).alloc (Nat.le_refl _) (rtC K 0 (.slice none 0 0) 0)))
  have HB3 := Lib.hid (HB2.out.alloc HB2.out.size (rtC K 0 (.slice none 0 0) 0))
  have T43 := Lib.hid (T4_new w2 K 0 (.slice none 0 0) 0)
  have hlt2 := TS2.t3.lt
  clear hb2 TS2
  go_wp2_with fail
  generalize hbr : w2.heap.size = br at *
  have hbr2 : W.heap.size + 1 < br := by omega
  generalize hw3 : w2.alloc (rtC K 0 (.slice none 0 0) 0) = w3 at *
  clear hw3 hbr
  go_loopw [9] (fun i wr => ∃ (k : Nat) (gs : List Nat) (gone last : Int) (l : List Mk) (lv : Value), k ≤ ls.length ∧ k ≤ 100 ∧ i = .int .i64 k ∧ AR W wr K br k gs gone last l lv) (fun i _ => ls.length - (intOf i).toNat)
  case atStart => exact ⟨0, [], 0, 0, [], .slice none 0 0, by omega, by omega, by go_num, ⟨TS3.out, T43.out, RM_nil _, by simp [Value.ownBlock], by simp, by omega, HB3.out, hbr2⟩⟩
  case round =>
    obtain ⟨k, gs, gone, last, l, lv, hk, hk100, rfl, ar⟩ := hrel
    have AR1 := Lib.hid ar
    clear ar
    have SPL := Lib.hid (spec_le K gone last l)
    by_cases hlt : k < ls.length
    · by_cases hlt2 : k < 100
      · have hkn : (k : Int) < (ls.length : Int) := by omega
        have hk100' : (k : Int) < 100 := by omega
        obtain ⟨b, o, u, rfl, hb, hcell, hu⟩ := HR.out k hlt
        have hml := HM.out k hlt
        generalize ls.getD k [] = ms at *
        have hcx := (AR1.out.be.cell (p := ⟨b, o + k, none⟩) hb).trans hcell
        have hur := Lib.hid (hu.below AR1.out.be)
        have HU := Lib.hid hu
        have HCELL := Lib.hid hcell
        clear hu hcell
        go_wp2_with (at_builtin; refine appendRM (W := wr) rfl _ _ 28 rfl wr.heap.size 42 i0 _ Tryd.underlying28 hi hz0 hz1 hz2 rfl _ 0 [] rfl (World.ownsRow_nil _ _ _ _) _ ms rfl hur.out (by omega) (Nat.le_refl _) (Below.refl _ _) ?_; intro vm wA hownA hbeA hchA hvoA)
        have ownA := first_own hownA
        have rmA := (RM_own ownA).1
        have own_lo : ∀ x, vm.ownBlock = some x → wr.heap.size ≤ x ∧ x < wA.heap.size := fun x hx => ⟨own_ge ownA x hx, own_lt' ownA x hx⟩
        have AD := add_any wA _ _ gs K gone last l ms vm (AR1.out.ts.below hbeA) rmA hml (fun x hx e => by have := AR1.out.ts.lt x e; have := (own_lo x hx).1; omega) ⟨AR1.out.go.1, by have := AR1.out.go.2; omega⟩
        have RA := Lib.hid (fun w h1' h2' => radd_any w K gone last lv u l ms h1' h2' AR1.out.ts.le h1 h2 hml ⟨AR1.out.go.1, by have := AR1.out.go.2; omega⟩)
        have SP := Lib.hid (SPL.out ms)
        generalize specAdd K gone last l ms = s at *
        refine AD.mono ?_
        clear AD
        rintro e wB ⟨rfl, gs', tsB, hgsB, chB⟩
        have AR2 := Lib.hid (AR1.out.add hbeA tsB hgsB chB rmA own_lo)
        have hcB := (AR2.out.be.cell (p := ⟨b, o + k, none⟩) hb).trans HCELL.out
        have T4B := Lib.hid AR2.out.t4
        have HUB := Lib.hid (HU.out.below AR2.out.be)
        obtain ⟨lt, c0, c1, c2, c3, fr⟩ := AR2.out.t4
        obtain ⟨pl, cl, rfl, _⟩ := AR2.out.rm.out
        have lvlt : Hid (∀ x, (Value.slice pl l.length cl).ownBlock = some x → l ≠ [] → x < wB.heap.size) := Lib.hid (fun x hx hl => RM_lt AR2.out.rm x hx hl)
        have RAB := Lib.hid (fun w (h : Below wB.heap.size wB w) => (RA.out w (AR2.out.rm.below h) (HUB.out.below h)).mono (R' := fun e w' => ∃ pl' cl' nl', e = .returned (.tuple #[.agg #[.int .i64 K, .int .i64 s.gone, .slice pl' nl' cl', .int .i64 s.last], .int .i64 s.n]) ∧ RM w' (.slice pl' nl' cl') s.l ∧ Below w.heap.size w w' ∧ ∀ x, (Value.slice pl' nl' cl').ownBlock = some x → ((Value.slice pl l.length cl).ownBlock = some x ∧ s.l = l) ∨ w.heap.size ≤ x) (by
          rintro e w' ⟨lv', rfl, h1, h2, h3⟩
          obtain ⟨p', c', rfl, _⟩ := h1.out
          exact ⟨p', c', _, rfl, h1, h2, h3⟩))
        clear hbeA tsB hgsB chB rmA own_lo ownA hownA hchA hvoA hcx
        go_upto_region 11 with fail
        go_cut [12, 13] (fun s12 s13 wx => CutR wB K (.slice pl l.length cl) l s s12 s13 wx)
        case first =>
          have hcC : (wB.alloc (rtC 0 0 (.slice none 0 0) 0)).cell? ⟨b, o + k, none⟩ = some u := (World.cell?_of_block (w := wB) (a := ⟨b, o + k, none⟩) (Below.heap_alloc wB _ b (by have := AR2.out.be.size; omega))).trans hcB
          obtain ⟨alt, a0, a1, a2, a3, afr⟩ := AR2.out.t4.of_block (w' := wB.alloc (rtC 0 0 (.slice none 0 0) 0)) (by simp) (Below.heap_alloc _ _ _ lt)
          go_region_with (first
            | (go_at_call 9; (with_reducible refine (RAB.out (wB.alloc (rtC 0 0 (.slice none 0 0) 0)).drew ((Below.refl _ _).alloc (Nat.le_refl _) _).drew).mono ?_); rintro e wC ⟨pl', cl', nl', rfl, rmC, beC, hlC⟩; obtain ⟨zlt, z0, z1, z2, z3, zf⟩ := zeroT4 beC)
            | (go_at_call 9; (with_reducible refine (RAB.out wB.drew (Below.refl _ _).drew).mono ?_); rintro e wC ⟨pl', cl', nl', rfl, rmC, beC, hlC⟩))
          all_goals
            go_wp2_with fail
            go_meet
            first
              | exact cutA zlt z0 z1 z2 z3 zf rmC beC hlC lvlt
              | exact cutB rmC beC hlC lvlt
        case rest =>
          obtain ⟨b12, lv', rfl, rfl, t12, rm12, be12, hb12, dis12⟩ := hcut
          obtain ⟨pl', cl', rfl, _⟩ := rm12.out
          have A3 := Lib.hid (AR2.out.cut hbr2 HU.out rm12 be12 dis12)
          have hb12' := AR2.out.t4.lt
          obtain ⟨dlt, d0, d1, d2, d3, dfr⟩ := t12
          obtain ⟨elt, e0, e1, e2, e3, efr⟩ := T4B.out.of_block be12.size (be12.block _ hb12')
          clear rm12 be12 dis12 lt c0 c1 c2 c3 fr hcB hur
          go_wp2_with fail
          obtain ⟨wD, hwD⟩ : ∃ wD, wD = put4 wc br K s.gone (.slice pl' s.l.length cl') s.last := ⟨_, rfl⟩
          rw [show (((wc.setCell ⟨br, 0, none⟩ (.int .i64 K)).setCell ⟨br, 1, none⟩ (.int .i64 s.gone)).setCell ⟨br, 2, none⟩ (.slice pl' s.l.length cl')).setCell ⟨br, 3, none⟩ (.int .i64 s.last) = wD from hwD.symm]
          rw [← hwD] at A3
          clear hwD dlt d0 d1 d2 d3 dfr elt e0 e1 e2 e3 efr
          have AL := all_t wD _ _ _ _ _ _ _ A3.out.ts
          refine AL.mono ?_
          clear AL
          rintro e wE ⟨v2, rfl, own2, beE⟩
          have OWN2 := Lib.hid own2
          have BEE := Lib.hid beE
          have NM := Lib.hid (num_any s.n wE (HE.out.below (A3.out.be.trans (beE.mono A3.out.be.size)) (Nat.le_refl _)))
          clear own2 beE
          go_wp2_with fail
          refine NM.out.mono ?_
          rintro e wF ⟨rfl, beF⟩
          have BEF : Hid (Below wD.heap.size wD wF) := Lib.hid (BEE.out.trans (beF.mono BEE.out.size))
          have OWNF := Lib.hid (own_below' OWN2.out beF)
          obtain ⟨flt, f0, f1, f2, f3, ffr⟩ := A3.out.t4.of_block BEF.out.size (BEF.out.block _ A3.out.t4.lt)
          have SM := same_s s.l s.l v2 (.slice pl' s.l.length cl') wF (RM_own OWNF.out).1 (A3.out.rm.below BEF.out) (by have := A3.out.ts.le; omega)
          rw [show decide (s.l = s.l) = true by simp] at SM
          have SMH := Lib.hid SM
          have hcF := (((A3.out.be.trans (BEF.out.mono A3.out.be.size)).cell (p := ⟨b, o + k, none⟩) hb).trans HCELL.out)
          clear beF SM
          go_wp2_with fail
          refine SMH.out.mono ?_
          rintro e wG ⟨rfl, qG⟩
          have BEG : Hid (Below wD.heap.size wD wG) := Lib.hid (BEF.out.trans qG.below)
          have OWNG := Lib.hid (own_below' OWNF.out qG.below)
          clear flt f0 f1 f2 f3 ffr hcF
          obtain ⟨flt, f0, f1, f2, f3, ffr⟩ := A3.out.t4.of_block BEG.out.size (BEG.out.block _ A3.out.t4.lt)
          have hcG := (((A3.out.be.trans (BEG.out.mono A3.out.be.size)).cell (p := ⟨b, o + k, none⟩) hb).trans HCELL.out)
          have SM2 := same_s ms ms vm u wG (A3.out.mine.below BEG.out) (A3.out.row.below BEG.out) (by omega)
          rw [show decide (ms = ms) = true by simp] at SM2
          have SMH2 := Lib.hid SM2
          have hgg : (s.gone != s.gone) = false := by simp
          clear qG SM2
          go_wp2_with fail
          refine SMH2.out.mono ?_
          rintro e wI ⟨rfl, qI⟩
          have BEI : Hid (Below wD.heap.size wD wI) := Lib.hid (BEG.out.trans qI.below)
          have OWNI := Lib.hid (own_below' OWNG.out qI.below)
          clear qI flt f0 f1 f2 f3 ffr hcG hgg
          have form2 : ∃ p2 c2, v2 = .slice p2 s.l.length c2 ∧ (0 < s.l.length → ∃ g2, p2 = some ⟨g2, 0, none⟩ ∧ wD.heap.size ≤ g2 ∧ ∃ ms2, Ring wI g2 s.l.length ms2) := by
            have o := OWNI.out
            rcases o.2 with ⟨rfl, h0⟩ | ⟨g2, c2, cur, rfl, hg2, _⟩
            · exact ⟨none, 0, by rw [h0], fun h => by omega⟩
            · exact ⟨_, c2, rfl, fun _ => ⟨g2, rfl, hg2, _, Ring_own' o⟩⟩
          obtain ⟨p2, c2, rfl, hp2⟩ := form2
          have hnl : s.l.length ≤ 4096 := by have := A3.out.ts.le; omega
          go_wp2_with fail
          go_loopw [16] (fun j wr2 => ∃ j' : Nat, j' ≤ s.l.length ∧ j = .int .i64 j' ∧ Below wD.heap.size wD wr2 ∧ (0 < s.l.length → ∃ g2, p2 = some ⟨g2, 0, none⟩ ∧ wD.heap.size ≤ g2 ∧ ∃ ms2, Ring wr2 g2 s.l.length ms2)) (fun j _ => s.l.length - (intOf j).toNat)
          case atStart => exact ⟨0, Nat.zero_le _, by go_num, BEI.out, hp2⟩
          case round =>
            obtain ⟨j, hj, rfl, be2, hr2⟩ := hrel
            clear hp2
            by_cases hjl : j < s.l.length
            · obtain ⟨g2, rfl, hg2, ms2, r2⟩ := hr2 (by omega)
              have hjn : (j : Int) < (s.l.length : Int) := by omega
              have hjb : (j : Int) ≤ 4096 := by omega
              have R2 := Lib.hid (r2.setT j hjl 4321)
              have rlt := r2.lt
              have rfr := r2.fr
              obtain ⟨x0, x1, x2, x3, x4⟩ := r2.at5 j hjl
              clear r2 hr2
              go_wp2_with fail
              go_roundw
              case rel => exact ⟨j + 1, by omega, by go_num, be2.setCell (p := ⟨g2, j * 5, none⟩) hg2 _, fun _ => ⟨g2, rfl, hg2, _, R2.out⟩⟩
              case measure => simp [intOf]; omega
            · obtain rfl : j = s.l.length := by omega
              have NX := Lib.hid (A3.out.next be2 hbr2 AR1.out.go SP.out hml)
              clear hr2 be2
              go_wp2_with fail
              go_roundw
              case rel => exact ⟨k + 1, gs', s.gone, s.last, s.l, _, by omega, by omega, by go_num, NX.out⟩
              case measure => simp [intOf]; omega
      · obtain rfl : k = 100 := by omega
        have hkn : (100 : Int) < (ls.length : Int) := by omega
        go_wp2_with fail
        refine (SU.out _).mono ?_
        rintro e w' ⟨rfl, hb⟩
        go_wp2_with fail
        go_ret
        exact ⟨rfl, AR1.out.be.trans (hb.mono AR1.out.be.size)⟩
    · obtain rfl : k = ls.length := by omega
      go_wp2_with fail
      refine (SU.out _).mono ?_
      rintro e w' ⟨rfl, hb⟩
      go_wp2_with fail
      go_ret
      exact ⟨rfl, AR1.out.be.trans (hb.mono AR1.out.be.size)⟩

theorem traceAdds_walk (a : Int) (wa : -9223372036854775808 ≤ a ∧ a ≤ 9223372036854775807) (ls : List (List Mk)) (v : Value) {W : World} (hv : RR W v ls) (hn : ls.length ≤ 1048576) (hm : ∀ i, i < ls.length → (ls.getD i []).length ≤ 1048576) (_W : World) (E : ETy W) :
    Calls Tryd.prog 3 #[.int .i64 a, v] W fun e w' => e = .returned (.bool true) ∧ Below W.heap.size W w' := by
  by_cases h : 1 ≤ a ∧ a ≤ 4096
  · obtain ⟨K, rfl⟩ := Int.eq_ofNat_of_zero_le (show 0 ≤ a by omega)
    exact traceAdds_ok K v ls W E (by omega) (by omega) hv hn hm
  · exact traceAdds_bad a v W E h
end Go.Proofs.YtohodbpjcbjifaaDoor
