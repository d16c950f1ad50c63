/- kernel: walk, All. -/
import Derived.Test.YtmfmmopnapchjaaDoorVh
namespace Go.Proofs.YtmfmmopnapchjaaDoor
open Go Go.RowKit Go.ChangeShapes Go.WideShapes
set_option linter.unusedVariables false
set_option linter.unusedSimpArgs false
set_option maxRecDepth 100000
set_option maxHeartbeats 800000

/-- A node's children, by their slots. -/
def kidSl (g : Nat → Nat) (tk : Nat → Bool) (nd : Nat → NdV) (i : Nat) : List Nat := (slotsL 64 tk).filter fun j => decide ((nd j).parent = hnd 1 i (g i))
theorem kidsOf_sl (g : Nat → Nat) (tk : Nat → Bool) (nd : Nat → NdV) (i : Nat) : kidsOf g nd (hnd 1 i (g i)) (slotsL 64 tk) = (kidSl g tk nd i).map fun j => .int .i64 (hnd 1 j (g j)) := rfl
theorem kidSl_mem {g : Nat → Nat} {tk : Nat → Bool} {nd : Nat → NdV} {i j : Nat} (h : j ∈ kidSl g tk nd i) : j < 64 ∧ tk j = true := slotsL_mem.1 (List.mem_filter.1 h).1
/-- A node and all below it. -/
def walkS (g : Nat → Nat) (tk : Nat → Bool) (nd : Nat → NdV) : Nat → Nat → List Nat
  | 0, _ => []
  | f + 1, i => i :: (kidSl g tk nd i).flatMap (walkS g tk nd f)
/-- The way down ends. -/
def Deep (g : Nat → Nat) (tk : Nat → Bool) (nd : Nat → NdV) : Nat → Nat → Prop
  | 0, _ => False
  | f + 1, i => ∀ j ∈ kidSl g tk nd i, Deep g tk nd f j
theorem Grew.trans {a b c : World} {u v x : Value} (h : Grew a b u v) (k : Grew b c v x) (hu : ∀ y, u.ownBlock = some y → y < a.heap.size) : Grew a c u x :=
  ⟨Nat.le_trans h.size k.size, fun y hy hn => (k.block y (Nat.lt_of_lt_of_le hy h.size) (fun e => (h.own y e).elim hn (fun c => by omega))).trans (h.block y hy hn), fun y hy => (k.own y hy).elim (fun e => (h.own y e)) (fun e => .inr (Nat.le_trans h.size e))⟩
theorem Grew.of_below {a b : World} (u : Value) (h : Below a.heap.size a b) : Grew a b u u := ⟨h.size, fun k hk _ => h.block k hk, fun x hx => .inl hx⟩
abbrev hV (g : Nat → Nat) (i : Nat) : Value := .int .i64 (hnd 1 i (g i))
theorem walk_c (W : World) (k t r bk pl : Nat) (root now idle : Int) (g : Nat → Nat) (tk : Nat → Bool) (p : Nat → Nat) (nd : Nat → NdV) (hkb : W.heap[k]? = some (kerObj t bk pl root now idle)) (H : NodesAt W t r g tk p nd) (hg : ∀ i, i < 64 → tk i = true → 1 ≤ g i ∧ g i ≤ 1023) (f : Nat) :
    ∀ (i : Nat) (w : World) (v : Value) (xs : List Value), i < 64 → tk i = true → Deep g tk nd f i → xs.length + (walkS g tk nd f i).length ≤ 1000000 → Below W.heap.size W w → w.ownsRow W.heap.size 34 1 v xs.length xs →
    Calls Tryd.prog 50 #[.pointer (some ⟨k, 0, none⟩), v, .int .i64 (hnd 1 i (g i))] w fun e w' => ∃ v', e = .returned v' ∧ w'.ownsRow W.heap.size 34 1 v' (xs ++ (walkS g tk nd f i).map (hV g)).length (xs ++ (walkS g tk nd f i).map (hV g)) ∧ Below W.heap.size W w' ∧ Grew w w' v v' := by
  obtain ⟨i0, hi0, hz0, hz1, hz2⟩ := info_of Tryd.infoHandle
  induction f with
  | zero => intro i w v xs _ _ hd; exact hd.elim
  | succ f ih =>
    intro i w v xs hi hti hd hlen hbe hown
    have KC := Lib.hid (fun w' (b : Below W.heap.size W w') => kids_c w' k t r bk pl root now idle (hnd 1 i (g i)) g tk p nd (kb_below hkb b) (H.below b) hg)
    have IH := Lib.hid ih
    have KO := Lib.hid hown
    have KB := Lib.hid hbe
    have HD := Lib.hid hd
    have WL : Hid ((walkS g tk nd (f + 1) i).map (hV g) = hV g i :: ((kidSl g tk nd i).flatMap (walkS g tk nd f)).map (hV g)) := Lib.hid rfl
    have hlen2 : xs.length + 1 + ((kidSl g tk nd i).flatMap (walkS g tk nd f)).length ≤ 1000000 := by
      have : (walkS g tk nd (f + 1) i).length = ((kidSl g tk nd i).flatMap (walkS g tk nd f)).length + 1 := rfl
      omega
    have HL := Lib.hid hlen2
    have hxl : xs.length + 1 ≤ 1000000 := by omega
    clear ih hown hbe hd hlen hkb H hlen2
    rw [WL.out]
    go_enter Tryd.func50, Tryd.ntmps50
    go_wp2_with ((at_builtin; refine appendN2 rfl _ _ 26 rfl W.heap.size 34 i0 _ 1 8 Tryd.underlying26 hi0 hz0 hz1 hz2 rfl (by decide) _ _ _ rfl KO.out _ [.int .i64 (hnd 1 i (g i))] _ rfl rfl rfl (by simp [Value.oneCell']) (by unfold maxLen; omega) (by omega) KB.out.size KB.out ?_; intro v1 w1 own1 b1 gr1; have O1 := Lib.hid own1; have B1 := Lib.hid b1; have G1 := Lib.hid gr1; clear own1 b1 gr1))
    refine (KC.out _ B1.out).mono ?_
    rintro e w2 ⟨v0, rfl, own0, b2⟩
    obtain ⟨R0, L0⟩ := RG_own own0
    rw [kidsOf_sl] at R0 own0
    have hg0 := own_ge1 own0
    obtain ⟨p0, c0, hv0, hp0⟩ := R0.out
    rw [List.length_map] at hp0 hv0
    subst hv0
    have HP := Lib.hid hp0
    have HG0 := Lib.hid hg0
    have HB2 := Lib.hid b2
    have LT1 := Lib.hid (own_lt1 O1.out)
    have O2 := Lib.hid (own_below1 O1.out b2)
    have B2 := Lib.hid (B1.out.trans (b2.mono B1.out.size))
    have G2 := Lib.hid (G1.out.trans (Grew.of_below _ b2) (own_lt1 KO.out))
    have hll : (kidSl g tk nd i).length ≤ 64 := Nat.le_trans (List.length_filter_le _ _) (slotsL_length 64 tk)
    clear own0 b2 R0 L0 hp0 hg0
    go_wp2_with fail
    go_loopw [1, 17] (fun u y wr => ∃ j : Nat, j ≤ (kidSl g tk nd i).length ∧ y = .int .i64 j ∧ wr.ownsRow W.heap.size 34 1 u (xs ++ hV g i :: (((kidSl g tk nd i).take j).flatMap (walkS g tk nd f)).map (hV g)).length (xs ++ hV g i :: (((kidSl g tk nd i).take j).flatMap (walkS g tk nd f)).map (hV g)) ∧ Below W.heap.size W wr ∧ Grew w2 wr v1 u) (fun _ y _ => (kidSl g tk nd i).length - (intOf y).toNat)
    case atStart => exact ⟨0, Nat.zero_le _, rfl, by simpa using O2.out, B2.out, Grew.of_below _ (Below.refl _ _)⟩
    case round =>
      obtain ⟨j, hj, rfl, hown, hbe, hgr⟩ := hrel
      by_cases hlt : j < (kidSl g tk nd i).length
      · obtain ⟨x, hx⟩ : ∃ x, x = (kidSl g tk nd i)[j] := ⟨_, rfl⟩
        have hm : x ∈ kidSl g tk nd i := by rw [hx]; exact List.getElem_mem hlt
        obtain ⟨hx64, htx⟩ := kidSl_mem hm
        obtain ⟨b0, o0, rfl, hc0, hb0, hcell⟩ := HP.out (by omega)
        have e0 : wr.cell? ⟨b0, o0 + j, none⟩ = some (.int .i64 (hnd 1 x (g x))) := by
          have h1 := hcell j hlt
          have h2 : wr.heap[b0]? = w2.heap[b0]? := hgr.block b0 hb0 (fun e => by
            have := LT1.out b0 e
            have := HG0.out b0 (by simp [Value.ownBlock])
            omega)
          rw [World.cell?_of_block (w := w2) (a := ⟨b0, o0 + j, none⟩) h2, h1]
          simp [List.getD, hlt, hx]
        have ET : Hid (((kidSl g tk nd i).take (j + 1)).flatMap (walkS g tk nd f) = ((kidSl g tk nd i).take j).flatMap (walkS g tk nd f) ++ walkS g tk nd f x) := Lib.hid (by rw [take_succ' _ j hlt, ← hx, List.flatMap_append]; simp)
        have hle : (xs ++ hV g i :: (((kidSl g tk nd i).take j).flatMap (walkS g tk nd f)).map (hV g)).length + (walkS g tk nd f x).length ≤ 1000000 := by
          have h1 : ((kidSl g tk nd i).flatMap (walkS g tk nd f)).length = (((kidSl g tk nd i).take (j + 1)).flatMap (walkS g tk nd f)).length + (((kidSl g tk nd i).drop (j + 1)).flatMap (walkS g tk nd f)).length := by
            rw [← List.length_append, ← List.flatMap_append, List.take_append_drop]
          rw [ET.out] at h1
          have := HL.out
          simp only [List.length_append, List.length_cons, List.length_map] at h1 ⊢
          omega
        have KX := Lib.hid (IH.out x wr u1 _ hx64 htx (HD.out x hm) hle hbe hown)
        have GR := Lib.hid hgr
        clear hown hbe hcell hm hx hgr
        go_wp2_with fail
        refine KX.out.mono ?_
        rintro e w4 ⟨v4, rfl, own4, b4, gr4⟩
        have O4 := Lib.hid own4
        have B4 := Lib.hid b4
        have G4 := Lib.hid (GR.out.trans gr4 (fun y hy => Nat.lt_of_lt_of_le (LT1.out y hy) HB2.out.size))
        clear own4 b4 gr4
        go_wp2_with fail
        go_roundw
        case rel =>
          refine ⟨j + 1, by omega, by go_num, ?_, B4.out, G4.out⟩
          rw [ET.out, List.map_append, ← List.cons_append, ← List.append_assoc]
          exact O4.out
        case measure => simp [intOf]; omega
      · obtain rfl : j = (kidSl g tk nd i).length := by omega
        have GR := Lib.hid hgr
        have KO2 := Lib.hid hown
        have KB2 := Lib.hid hbe
        clear hgr hown hbe
        go_wp2_with fail
        go_ret
        have := KO2.out
        rw [List.take_length] at this
        exact ⟨_, rfl, this, KB2.out, G2.out.trans GR.out (own_lt1 KO.out)⟩
theorem kerAll_c (W : World) (k t r bk pl : Nat) (now idle : Int) (g : Nat → Nat) (tk : Nat → Bool) (p : Nat → Nat) (nd : Nat → NdV) (hkb : W.heap[k]? = some (kerObj t bk pl (hnd 1 0 (g 0)) now idle)) (H : NodesAt W t r g tk p nd) (hg : ∀ i, i < 64 → tk i = true → 1 ≤ g i ∧ g i ≤ 1023) (f : Nat) (ht : tk 0 = true) (hd : Deep g tk nd f 0) (hl : (walkS g tk nd f 0).length ≤ 1000000) :
    Calls Tryd.prog 38 #[.pointer (some ⟨k, 0, none⟩)] W fun e w' => ∃ v', e = .returned v' ∧ w'.ownsRow W.heap.size 34 1 v' ((walkS g tk nd f 0).map (hV g)).length ((walkS g tk nd f 0).map (hV g)) ∧ Below W.heap.size W w' := by
  have KW := Lib.hid (walk_c W k t r bk pl (hnd 1 0 (g 0)) now idle g tk p nd hkb H hg f 0 W (.slice none 0 0) [] (by decide) ht hd (by simpa using hl) (Below.refl _ _) (World.ownsRow_nil _ _ _ _))
  have K1 := kb_cell hkb 1
  simp at K1
  clear hkb H
  generalize hnd 1 0 (g 0) = root at *
  go_enter Tryd.func38, Tryd.ntmps38
  go_wp2_with fail
  refine KW.out.mono ?_
  rintro e w1 ⟨v, rfl, own, b, _⟩
  have O := Lib.hid own
  have B := Lib.hid b
  clear own b
  go_wp2_with fail
  go_ret
  exact ⟨_, rfl, by simpa using O.out, B.out⟩
end Go.Proofs.YtmfmmopnapchjaaDoor
