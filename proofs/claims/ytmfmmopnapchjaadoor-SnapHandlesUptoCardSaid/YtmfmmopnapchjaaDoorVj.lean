/- Tables of nodes: Slots. -/
import Derived.Test.YtmfmmopnapchjaaDoorUc
import Derived.Test.YtmfmmopnapchjaaDoorUab
import Derived.Test.YtmfmmopnapchjaaDoorSa
import Derived.Deep.RegionHeld3
import Derived.Deep.AppendLies
namespace Go.Proofs.YtmfmmopnapchjaaDoor
open Go Go.RowKit Go.ChangeShapes Go.WideShapes
set_option linter.unusedVariables false
set_option linter.unusedSimpArgs false
set_option maxRecDepth 100000
set_option maxHeartbeats 1600000

/-- Rows of two types lie in two blocks. -/
theorem own_types {w : World} {B B' : Nat} {e e' : TypeId} {s s' : Nat} {v v' : Value} {n n' : Nat} {l l' : List Value} (h : w.ownsRow B e s v n l) (h' : w.ownsRow B' e' s' v' n' l') (hne : e ≠ e') : ∀ k, v.ownBlock = some k → v'.ownBlock ≠ some k := by
  intro k hk hk'
  rcases h.2 with ⟨rfl, _⟩ | ⟨g, cap, cur, rfl, _, h1, _⟩
  · simp [Value.ownBlock] at hk
  · rcases h'.2 with ⟨rfl, _⟩ | ⟨g', cap', cur', rfl, _, h1', _⟩
    · simp [Value.ownBlock] at hk'
    · simp [Value.ownBlock] at hk hk'
      subst hk hk'
      rw [h1] at h1'
      injection h1' with h1'
      injection h1' with _ h1' _
      exact hne h1'
theorem own_grown {w w' : World} {B : Nat} {e : TypeId} {s : Nat} {v : Value} {n : Nat} {l : List Value} {r : Option Nat} (h : w.ownsRow B e s v n l) (g : w.grownBy w' r) (hne : ∀ k, v.ownBlock = some k → r ≠ some k) : w'.ownsRow B e s v n l := by
  obtain ⟨h1, h2⟩ := h
  refine ⟨h1, ?_⟩
  rcases h2 with h | ⟨b, cap, cur, rfl, hb, hh, r⟩
  · exact .inl h
  · refine .inr ⟨b, cap, cur, rfl, hb, ?_, r⟩
    rw [g.block b (kb_lt hh) (fun e => hne b rfl e.symm)]
    exact hh
/-- 'append(s, x)' of one cell that lies anywhere, met in a region that draws its order. -/
theorem step_append1 {P : Program} {ops : Array Oper} {o : Oper} {a : Act} {K : Act → World → Prop} {Q : Exit → Act → World → Prop} {E : Prop} {w : World} (hgd : o.guard = none) (s x : Operand) (t : TypeId)
    (ho : o.op = .call { callee := .builtin .append, args := #[s, x], argTypes := #[t, t] })
    (base : Nat) (e : TypeId) (i : TypeInfo) (z : Value) (bytes : Nat) (ht : P.underlying t = some (.slice e)) (hi : P.info? e = some i) (hz : i.zero = some z)
    (hsize : i.size = 1) (hby : i.bytes = bytes) (hzs : z.cells.size = 1)
    (v : Value) (n : Nat) (xs : List Value) (hs : a.eval s = v) (hown : w.ownsRow base e 1 v n xs)
    (b c : Nat) (u : Value) (hx : a.eval x = .slice (some ⟨b, 0, none⟩) 1 c) (hc : w.cell? ⟨b, 0, none⟩ = some u) (h1 : u.oneCell' = true)
    (h63 : n + 1 ≤ maxLen) (hbytes : (n + 1) * bytes ≤ 140737488355328) (hbase : base ≤ w.heap.size)
    (h : ∀ g cap w', w'.ownsRow base e 1 (.slice (some ⟨g, 0, none⟩) (n + 1) cap) (n + 1) (xs ++ [u]) → w.grownBy w' v.ownBlock → K (a.put o.dst (.slice (some ⟨g, 0, none⟩) (n + 1) cap)) w') :
    if Region.wanted o (yielded ops a.tmps) = true then Oper.wp P o a w K Q else E := by
  refine step_append_lies (w := w) hgd s x t ho base e i z 1 bytes ht hi hz hsize hby hzs (by decide) v n xs hs hown ⟨b, 0, none⟩ 1 c [u] hx rfl ?_ (by simpa using h1) (by decide) h63 hbytes hbase _ rfl (fun g cap w' a b _ _ => h g cap w' a b)
  intro j y hj
  cases j with
  | zero =>
    simp at hj
    subst hj
    have hp : (⟨b, 0, none⟩ : Addr).add 0 = ⟨b, 0, none⟩ := by unfold Addr.add; split <;> simp_all
    rw [hp]
    exact hc
  | succ j => simp at hj
theorem cell_a (w : World) (u : Value) (T : TypeId) (o : Obj) : (w.alloc (.cells #[u] T)).cell? ⟨w.heap.size, 0, none⟩ = some u ∧ ((w.alloc (.cells #[u] T)).alloc o).cell? ⟨w.heap.size, 0, none⟩ = some u ∧ ((w.alloc o).alloc (.cells #[u] T)).cell? ⟨w.heap.size + 1, 0, none⟩ = some u := by
  have h1 := kb_new w (.cells #[u] T)
  have h2 := kb_alloc h1 o
  have h3 := kb_new (w.alloc o) (.cells #[u] T)
  simp only [World.alloc, Array.size_push] at h3
  exact ⟨kb_cell h1 0, kb_cell h2 0, kb_cell (w := (w.alloc o).alloc (.cells #[u] T)) h3 0⟩
theorem alloc2_size (w : World) (o o' : Obj) : ((w.alloc o).alloc o').heap.size = w.heap.size + 2 := by simp
def gensL (g : Nat → Nat) (m : Nat) : List Value := (List.range m).map fun i => .int .i64 (g i)
def tkL (tk : Nat → Bool) (m : Nat) : List Value := (List.range m).map fun i => .bool (tk i)
theorem gensL_succ (g : Nat → Nat) (m : Nat) : gensL g (m + 1) = gensL g m ++ [.int .i64 (g m)] := by simp [gensL, List.range_succ]
theorem tkL_succ (tk : Nat → Bool) (m : Nat) : tkL tk (m + 1) = tkL tk m ++ [.bool (tk m)] := by simp [tkL, List.range_succ]
theorem Tryd.infoIntV : (Tryd.prog.info? 3).map (fun i => (i.zero, i.size, i.bytes)) = some (some (.int .i64 0), 1, 8) := by kernel_rfl
theorem Tryd.infoBoolV : (Tryd.prog.info? 4).map (fun i => (i.zero, i.size, i.bytes)) = some (some (.bool false), 1, 1) := by kernel_rfl
/-- What a round of Slots leaves. -/
structure SlotsR (B : Nat) (W : World) (g : Nat → Nat) (tk : Nat → Bool) (m : Nat) (a b : Value) (w : World) : Prop where
  ga : w.ownsRow B 3 1 a m (gensL g m)
  ta : w.ownsRow B 4 1 b m (tkL tk m)
  be : Below B W w
theorem grown_below {B : Nat} {W w w' : World} {e : TypeId} {s : Nat} {v : Value} {n : Nat} {l : List Value} (hb : Below B W w) (hB : B ≤ w.heap.size) (ho : w.ownsRow B e s v n l) (g : w.grownBy w' v.ownBlock) : Below B W w' := below_own hb hB ho g
theorem slotsN_c (w : World) (b r N k : Nat) (g : Nat → Nat) (tk : Nat → Bool) (t : Nat → Value) (H : TabAt w b r 95 97 3 N k (slotN g tk t)) (hN : N ≤ 4096) (hp : ∀ i, i < N → ∃ p, t i = .pointer p) :
    Calls Tryd.prog 37 #[.pointer (some ⟨b, 0, none⟩)] w fun e w' => ∃ va vb, e = .returned (.tuple #[va, vb]) ∧ SlotsR w.heap.size w g tk N va vb w' := by
  obtain ⟨iG, hiG, hzG, hsG, hbG⟩ := info_of Tryd.infoIntV
  obtain ⟨iT, hiT, hzT, hsT, hbT⟩ := info_of Tryd.infoBoolV
  have HH := Lib.hid H
  have T1 := kb_cell H.tb 1
  simp at T1
  clear H
  go_enter Tryd.func37, Tryd.ntmps37
  go_wp2_with fail
  go_loopw [4, 5, 15] (fun va vb i wr => ∃ m : Nat, m ≤ N ∧ i = .int .i64 m ∧ SlotsR w.heap.size w g tk m va vb wr) (fun _ _ i _ => N - (intOf i).toNat)
  case atStart => exact ⟨0, Nat.zero_le _, rfl, World.ownsRow_nil _ _ _ _, World.ownsRow_nil _ _ _ _, Below.refl _ _⟩
  case round =>
    obtain ⟨m, hm, rfl, hga, hta, hbe⟩ := hrel
    by_cases hlt : m < N
    · have HR := HH.out.below hbe
      have x0 := HR.row.cell m 0 hlt (by decide)
      have x1 := HR.row.cell m 1 hlt (by decide)
      have x2 := HR.row.cell m 2 hlt (by decide)
      obtain ⟨px, hpx⟩ := hp m hlt
      simp [slotN, hpx] at x0 x1 x2
      have GA := Lib.hid hga
      have TA := Lib.hid hta
      have BE := Lib.hid hbe
      clear HR hga hta hbe hpx
      go_upto_region 8 with fail
      generalize hz : World.alloc wr _ = wz
      have n0 : wz.heap[wr.heap.size]? = _ := hz ▸ kb_new wr _
      have GZ := Lib.hid (show wz.ownsRow _ _ _ _ _ _ from hz ▸ GA.out.alloc _)
      have TZ := Lib.hid (show wz.ownsRow _ _ _ _ _ _ from hz ▸ TA.out.alloc _)
      have BZ := Lib.hid (show Below w.heap.size w wz from hz ▸ BE.out.alloc BE.out.size _)
      have LA := Lib.hid (own_lt1 GA.out)
      have SR : Hid (wz.heap.size = wr.heap.size + 1) := Lib.hid (by rw [← hz]; simp)
      have N0 := Lib.hid n0
      have NT := Lib.hid (own_types TZ.out GZ.out (by decide))
      have q := kb_cell n0
      clear hz GA TA BE n0 x0 x1 x2
      have CG := Lib.hid (cell_a wz (.int .i64 (g m)) 3 (.cells #[.bool (tk m)] 4))
      have CT := Lib.hid (cell_a wz (.bool (tk m)) 4 (.cells #[.int .i64 (g m)] 3))
      have CX : Hid (∀ w' : World, (w'.alloc (.cells #[.bool (tk m)] 4)).cell? ⟨w'.heap.size, 0, none⟩ = some (.bool (tk m))) := Lib.hid (fun w' => (cell_a w' _ _ (.cells #[] 0)).1)
      have GS := Lib.hid (gensL_succ g m)
      have TS := Lib.hid (tkL_succ tk m)
      have HM1 : Hid (m + 1 ≤ maxLen) := Lib.hid (by unfold maxLen; omega)
      have HM2 : Hid ((m + 1) * 8 ≤ 140737488355328) := Lib.hid (by omega)
      have HM3 : Hid ((m + 1) * 1 ≤ 140737488355328) := Lib.hid (by omega)
      have SZ := Lib.hid BZ.out.size
      have hlz : wr.heap.size < wz.heap.size := by have := SR.out; omega
      have hnz : wr.heap.size ≠ wz.heap.size := by omega
      have q0 : ∀ o i, (wz.alloc o).cell? ⟨wr.heap.size, i, none⟩ = wz.cell? ⟨wr.heap.size, i, none⟩ := fun o i => World.cell?_of_block (w := wz) (a := ⟨wr.heap.size, i, none⟩) (Below.heap_alloc _ _ _ hlz)
      go_region_law? ((first
        | (refine step_append1 rfl (.tmp 19) (.tmp 22) 60 rfl w.heap.size 3 iG _ 8 Tryd.underlying60 hiG hzG hsG hbG rfl _ m (gensL g m) rfl ?_ _ _ (.int .i64 (g m)) rfl ?_ rfl HM1.out HM2.out ?_ ?_
           · first | exact GZ.out | exact GZ.out.alloc _ | exact (GZ.out.alloc _).alloc _
           · first | exact CG.out.1 | exact CG.out.2.1 | exact CG.out.2.2
           · first | exact SZ.out | exact (BZ.out.alloc SZ.out _).size | exact ((BZ.out.alloc SZ.out _).alloc (BZ.out.alloc SZ.out _).size _).size
           intro gb cb w1 own1 gr1
           have KP := fun x (hx : wr.heap.size ≤ x) h2 => gr1.block x h2 (fun e => by have := LA.out x e.symm; omega)
           have q1 := kb_cell ((KP wr.heap.size (Nat.le_refl _) (by first | exact kb_lt (kb_alloc N0.out _) | exact kb_lt (kb_alloc (kb_alloc N0.out _) _))).trans (by first | exact kb_alloc N0.out _ | exact kb_alloc (kb_alloc N0.out _) _))
           have T1 := own_grown (by first | exact TZ.out.alloc _ | exact (TZ.out.alloc _).alloc _) gr1 NT.out
           have B1 := grown_below (by first | exact (BZ.out.alloc SZ.out _).drew | exact ((BZ.out.alloc SZ.out _).alloc (BZ.out.alloc SZ.out _).size _).drew) (by first | exact (BZ.out.alloc SZ.out _).size | exact ((BZ.out.alloc SZ.out _).alloc (BZ.out.alloc SZ.out _).size _).size) (by first | exact GZ.out.alloc _ | exact (GZ.out.alloc _).alloc _) gr1
           have NT1 := own_types own1 T1 (by decide))
        | (refine step_append1 rfl (.tmp 24) (.tmp 27) 62 rfl w.heap.size 4 iT _ 1 Tryd.underlying62 hiT hzT hsT hbT rfl _ m (tkL tk m) rfl ?_ _ _ (.bool (tk m)) rfl ?_ rfl HM1.out HM3.out ?_ ?_
           · first | exact T1 | exact T1.alloc _
           · first | exact CX.out w1 | exact (World.cell?_of_block (a := ⟨wz.heap.size, 0, none⟩) (KP wz.heap.size (Nat.le_of_lt hlz) (Nat.lt_of_lt_of_eq (by omega) (alloc2_size wz _ _).symm))).trans CT.out.2.1 | exact (World.cell?_of_block (a := ⟨wz.heap.size + 1, 0, none⟩) (KP (wz.heap.size + 1) (Nat.le_succ_of_le (Nat.le_of_lt hlz)) (Nat.lt_of_lt_of_eq (by omega) (alloc2_size wz _ _).symm))).trans CT.out.2.2
           · first | exact B1.size | exact (B1.alloc B1.size _).size
           intro gt ct w2 own2 gr2
           have B2 := grown_below (by first | exact B1 | exact B1.alloc B1.size _) (by first | exact B1.size | exact (B1.alloc B1.size _).size) (by first | exact T1 | exact T1.alloc _) gr2
           have G2 := own_grown (by first | exact own1 | exact own1.alloc _) gr2 NT1)))
      all_goals
        have HG := Lib.hid G2
        have HT := Lib.hid own2
        have HB := Lib.hid B2
        clear own1 gr1 own2 gr2 G2 B2 B1 KP NT1 T1 q1
        go_wp2_with fail
        go_roundw
        case rel => exact ⟨m + 1, by omega, by go_num, by rw [GS.out]; exact HG.out, by rw [TS.out]; exact HT.out, HB.out⟩
        case measure => simp [intOf]; omega
    · obtain rfl : m = N := by omega
      have GA := Lib.hid hga
      have TA := Lib.hid hta
      have BE := Lib.hid hbe
      clear hga hta hbe
      go_wp2_with fail
      go_ret2
      exact ⟨_, _, rfl, GA.out, TA.out, BE.out⟩
end Go.Proofs.YtmfmmopnapchjaaDoor
