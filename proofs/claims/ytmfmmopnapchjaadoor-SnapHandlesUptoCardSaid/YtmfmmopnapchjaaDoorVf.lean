/- kernel.New: the kernel with the root alone, as it lies in memory. -/
import Derived.Test.YtmfmmopnapchjaaDoorVb
import Derived.Test.YtmfmmopnapchjaaDoorVe
import Derived.Test.YtmfmmopnapchjaaDoorUi
import Derived.Test.YtmfmmopnapchjaaDoorUn
namespace Go.Proofs.YtmfmmopnapchjaaDoor
open Go Go.RowKit Go.ChangeShapes Go.WideShapes
set_option linter.unusedVariables false
set_option linter.unusedSimpArgs false
set_option maxRecDepth 100000
set_option maxHeartbeats 800000

/-- A node in memory: its parent's handle, its budget, its clock, its leaf's block. -/
structure NdV where
  parent : Int
  b : BudD
  clock : Int
  leaf : Nat
abbrev NdV.obj (n : NdV) : Obj := .cells #[.int .i64 n.parent, .int .i64 n.b.q, .int .i64 n.b.p, .int .i64 n.b.nq, .int .i64 n.b.np, .bool n.b.dying, .int .i64 n.b.left, .int .i64 n.b.st, .int .i64 n.b.fin, .int .i64 n.clock, .pointer (some ⟨n.leaf, 0, none⟩)] 53
/-- The nodes of a table. -/
structure NodesAt (w : World) (b r : Nat) (g : Nat → Nat) (tk : Nat → Bool) (p : Nat → Nat) (nd : Nat → NdV) : Prop where
  tab : TabAt w b r 95 97 3 64 1 (slotN g tk (fun i => .pointer (if tk i = true then some ⟨p i, 0, none⟩ else none)))
  nd : ∀ i, i < 64 → tk i = true → w.heap[p i]? = some (nd i).obj
theorem NodesAt.below {w w' : World} {b r : Nat} {g : Nat → Nat} {tk : Nat → Bool} {p : Nat → Nat} {nd : Nat → NdV} (h : NodesAt w b r g tk p nd) (hb : Below w.heap.size w w') : NodesAt w' b r g tk p nd :=
  ⟨h.tab.below hb, fun i hi ht => kb_below (h.nd i hi ht) hb⟩
/-- The kernel's own block. -/
abbrev kerObj (t bk pl : Nat) (root now idle : Int) : Obj := .cells #[.pointer (some ⟨t, 0, none⟩), .int .i64 root, .pointer (some ⟨bk, 0, none⟩), .pointer (some ⟨pl, 0, none⟩), .int .i64 now, .int .i64 idle] 59
/-- The kernel with the root alone. -/
structure K0 (w : World) (k t r n lf bk m pl pt pr : Nat) : Prop where
  kb : w.heap[k]? = some (kerObj t bk pl 1099511627777 0 0)
  nodes : NodesAt w t r (fun _ => 1) (fun i => decide (i = 0)) (fun _ => n) (fun _ => ⟨0, BudD.zero, 0, lf⟩)
  book : w.heap[bk]? = some (.cells #[.int .i64 1099511627777, .map (some m)] 112)
  map : MapAt w m 1 (fun x => if x = 1099511627777 then some EntD.zero else none)
  pool : PoolAt w pl pt pr (-1) (fun _ => 1) (fun _ => false) (fun _ => TkV.zero)
theorem PoolAt.below {w w' : World} {l b r : Nat} {last : Int} {g : Nat → Nat} {tk : Nat → Bool} {t : Nat → TkV} (h : PoolAt w l b r last g tk t) (hb : Below w.heap.size w w') : PoolAt w' l b r last g tk t :=
  ⟨kb_below h.pl hb, h.tab.below hb⟩
theorem K0.below {w w' : World} {k t r n lf bk m pl pt pr : Nat} (h : K0 w k t r n lf bk m pl pt pr) (hb : Below w.heap.size w w') : K0 w' k t r n lf bk m pl pt pr :=
  ⟨kb_below h.kb hb, h.nodes.below hb, kb_below h.book hb, h.map.below hb, h.pool.below hb⟩

theorem kerNew_c (w : World) : Calls Tryd.prog 10 #[] w fun e w' => ∃ k t r n lf bk m pl pt pr, e = .returned (.pointer (some ⟨k, 0, none⟩)) ∧ K0 w' k t r n lf bk m pl pt pr ∧ Below w.heap.size w w' := by
  have NN := Lib.hid (newN_c w 64 1 (by decide) (by decide))
  have LN := Lib.hid (fun w => leafNew_c w)
  have BN := Lib.hid (fun w => ledNew_c w 1099511627777 (by decide) (by decide))
  have PN := Lib.hid (fun w => poolNew_c w)
  go_enter Tryd.func10, Tryd.ntmps10
  go_wp2_with fail
  refine NN.out.mono ?_
  rintro e w1 ⟨t, r, rfl, ht, hr, hT, hB⟩
  have KT := Lib.hid hT
  have KB := Lib.hid hB
  clear hT hB
  go_wp2_with fail
  refine (LN.out _).mono ?_
  rintro e w2 ⟨lf, lb, lr, rfl, h1, h2, h3, hL, hB⟩
  have KT2 := Lib.hid (KT.out.below hB)
  have KB2 := Lib.hid (KB.out.trans (hB.mono KB.out.size))
  clear hL hB KT KB
  go_wp2_with fail
  generalize hw3 : World.alloc w2 _ = w3
  have b3 : Below w2.heap.size w2 w3 := hw3 ▸ (Below.refl _ w2).alloc (Nat.le_refl _) _
  have n3 : w3.heap[w2.heap.size]? = _ := hw3 ▸ kb_new w2 _
  have KT3 := Lib.hid (KT2.out.below b3)
  have KB3 := Lib.hid (KB2.out.trans (b3.mono KB2.out.size))
  have HN := Lib.hid KB2.out.size
  clear hw3 b3 KT2 KB2
  refine (addN_c w3 t r 64 1 0 (fun _ => 1) (fun _ => false) (fun _ => (.pointer none)) (some ⟨w2.heap.size, 0, none⟩) KT3.out (by decide) (by decide) (by decide) rfl (by decide) (fun j hj => absurd hj (Nat.not_lt_zero j))).mono ?_
  rintro e w4 ⟨rfl, hT, hC⟩
  have n4 : w4.heap[w2.heap.size]? = _ := (hC.block _ (kb_lt n3) (fun e => by
    have := KT3.out.row.blk
    obtain ⟨arr, ha, _⟩ := this
    rw [← e, n3] at ha
    injection ha with ha
    injection ha with _ ha _
    exact absurd ha (by decide))).trans n3
  have hN : NodesAt w4 t r (fun _ => 1) (fun i => decide (i = 0)) (fun _ => w2.heap.size) (fun _ => ⟨0, BudD.zero, 0, lf⟩) := ⟨⟨hT.tb, hT.row.congr fun j hj => by
      by_cases e : j = 0
      · subst e; simp [slotN, upd]
      · simp [slotN, upd, e]⟩, fun i hi ht => n4⟩
  have KN4 := Lib.hid hN
  have KB4 := Lib.hid (KB3.out.trans (hC.below (fun k hk => by subst hk; exact hr) KB3.out.size))
  clear hT hC n4 hN KT3 KB3 n3
  go_wp2_with fail
  refine (BN.out _).mono ?_
  rintro e w5 ⟨bk, m, rfl, h4, h5, hbk, hm, hB⟩
  have KN5 := Lib.hid (KN4.out.below hB)
  have KB5 := Lib.hid (KB4.out.trans (hB.mono KB4.out.size))
  have KBk := Lib.hid hbk
  have KM := Lib.hid hm
  clear hB hbk hm KN4 KB4
  go_wp2_with fail
  refine (PN.out _).mono ?_
  rintro e w6 ⟨pl, pt, pr, rfl, h6, h7, h8, hP, hB⟩
  have KN6 := Lib.hid (KN5.out.below hB)
  have KB6 := Lib.hid (KB5.out.trans (hB.mono KB5.out.size))
  have KBk6 := Lib.hid (kb_below KBk.out hB)
  have KM6 := Lib.hid (KM.out.below hB)
  have KP := Lib.hid hP
  clear hB hP KN5 KB5 KBk KM
  go_wp2_with fail
  go_ret
  have b7 : ∀ o, Below w6.heap.size w6 (w6.alloc o) := fun o => (Below.refl _ w6).alloc (Nat.le_refl _) o
  exact ⟨_, t, r, w2.heap.size, lf, bk, m, pl, pt, pr, rfl, ⟨kb_new w6 _, KN6.out.below (b7 _), kb_below KBk6.out (b7 _), KM6.out.below (b7 _), KP.out.below (b7 _)⟩, KB6.out.alloc KB6.out.size _⟩
end Go.Proofs.YtmfmmopnapchjaaDoor
