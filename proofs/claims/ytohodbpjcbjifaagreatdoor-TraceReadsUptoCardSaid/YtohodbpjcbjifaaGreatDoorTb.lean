/- Package trace: the state of a trace; New, All. -/
import Derived.Test.YtohodbpjcbjifaaGreatDoorTa
namespace Go.Proofs.YtohodbpjcbjifaaGreatDoor
open Go Go.RowKit Go.ChangeShapes Go.WideShapes
set_option linter.unusedVariables false
set_option maxRecDepth 100000
set_option maxHeartbeats 800000

/-- The three cells of a trace. -/
structure T3 (w : World) (b : Nat) (qv : Value) (gone last : Int) : Prop where
  lt : b < w.heap.size
  c0 : w.cell? ⟨b, 0, none⟩ = some qv
  c1 : w.cell? ⟨b, 1, none⟩ = some (.int .i64 gone)
  c2 : w.cell? ⟨b, 2, none⟩ = some (.int .i64 last)
  fr : ∀ o, w.frozen? ⟨b, o, none⟩ = false
theorem T3.of_block {w w' : World} {b : Nat} {qv : Value} {g l : Int} (h : T3 w b qv g l) (hs : w.heap.size ≤ w'.heap.size) (e : w'.heap[b]? = w.heap[b]?) : T3 w' b qv g l :=
  ⟨Nat.lt_of_lt_of_le h.lt hs, (World.cell?_of_block (w := w) (a := ⟨b, 0, none⟩) e).trans h.c0, (World.cell?_of_block (w := w) (a := ⟨b, 1, none⟩) e).trans h.c1, (World.cell?_of_block (w := w) (a := ⟨b, 2, none⟩) e).trans h.c2, frozen_old h.fr e⟩
theorem T3.setGone {w : World} {b : Nat} {qv : Value} {g l : Int} (h : T3 w b qv g l) (g' : Int) : T3 (w.setCell ⟨b, 1, none⟩ (.int .i64 g')) b qv g' l :=
  ⟨by simpa [World.setCell] using h.lt, other_set (by intro e; injection e with _ e2; omega) h.c0, same_set h.c1, other_set (by intro e; injection e with _ e2; omega) h.c2, set_frozen h.fr _ _⟩
theorem T3.setLast {w : World} {b : Nat} {qv : Value} {g l : Int} (h : T3 w b qv g l) (l' : Int) : T3 (w.setCell ⟨b, 2, none⟩ (.int .i64 l')) b qv g l' :=
  ⟨by simpa [World.setCell] using h.lt, other_set (by intro e; injection e with _ e2; omega) h.c0, other_set (by intro e; injection e with _ e2; omega) h.c1, same_set h.c2, set_frozen h.fr _ _⟩

/-- A trace that lies at t, its queue at q, the ring in gs. -/
structure TS (w : World) (t q : Nat) (gs : List Nat) (keep : Nat) (gone last : Int) (l : List Mk) : Prop where
  t3 : T3 w t (.pointer (some ⟨q, 0, none⟩)) gone last
  qs : QS w q gs keep l
  tq : t ≠ q
  tg : t ∉ gs
  le : l.length ≤ keep
  k1 : 1 ≤ keep
  k2 : keep ≤ 4096
/-- The trace's blocks. -/
def tb (t q : Nat) (gs : List Nat) (k : Nat) : Prop := k = t ∨ k = q ∨ k ∈ gs
theorem TS.of_block {w w' : World} {t q : Nat} {gs : List Nat} {keep : Nat} {gone last : Int} {l : List Mk} (h : TS w t q gs keep gone last l) (hs : w.heap.size ≤ w'.heap.size) (e : ∀ k, tb t q gs k → w'.heap[k]? = w.heap[k]?) : TS w' t q gs keep gone last l :=
  ⟨h.t3.of_block hs (e t (.inl rfl)), h.qs.of_block hs (fun k hk => e k (.inr hk)), h.tq, h.tg, h.le, h.k1, h.k2⟩
theorem TS.lt {w : World} {t q : Nat} {gs : List Nat} {keep : Nat} {gone last : Int} {l : List Mk} (h : TS w t q gs keep gone last l) : ∀ k, tb t q gs k → k < w.heap.size := by
  rintro k (rfl | hk)
  · exact h.t3.lt
  · exact h.qs.lt k hk
theorem TS.below {w w' : World} {t q : Nat} {gs : List Nat} {keep : Nat} {gone last : Int} {l : List Mk} (h : TS w t q gs keep gone last l) (hb : Below w.heap.size w w') : TS w' t q gs keep gone last l :=
  h.of_block hb.size (fun k hk => hb.block k (h.lt k hk))

theorem new_t (W : World) (keep : Nat) (h1 : 1 ≤ keep) (h2 : keep ≤ 4096) :
    Calls Tryz.prog 25 #[.int .i64 keep] W fun e w' => e = .returned (.tuple #[.pointer (some ⟨W.heap.size + 1, 0, none⟩), .nilIface]) ∧ TS w' (W.heap.size + 1) W.heap.size [] keep 0 0 [] ∧ Below W.heap.size W w' := by
  have a : ¬ (keep : Int) < 1 := by omega
  have b : ¬ (4096 : Int) < keep := by omega
  have NQ := Lib.hid (new_q W keep h1 h2)
  go_enter Tryz.func25, Tryz.ntmps25
  go_wp2_with fail
  refine NQ.out.mono ?_
  rintro e w1 ⟨rfl, rfl⟩
  have qs := QS_new W keep
  generalize hw1 : W.alloc (.cells #[.slice none 0 0, .int .i64 0, .int .i64 0, .int .i64 keep] 126) = w1 at *
  have s1 : w1.heap.size = W.heap.size + 1 := by rw [← hw1]; simp
  have c1 : Below W.heap.size W w1 := by rw [← hw1]; exact (Below.refl _ _).alloc (Nat.le_refl _) _
  have HQ := Lib.hid qs
  clear hw1 qs
  go_wp2_with fail
  go_ret2
  refine ⟨by simp, ⟨⟨by simp [s1], ?_, ?_, ?_, ?_⟩, HQ.out.of_block (by simp) (fun k hk => Below.heap_alloc _ _ _ (HQ.out.lt k hk)), by omega, by simp, by simp, h1, h2⟩, c1.alloc (by omega) _⟩
  · rw [← s1]; exact cell_new w1 _ _ 0 _ rfl
  · rw [← s1]; exact cell_new w1 _ _ 1 _ rfl
  · rw [← s1]; exact cell_new w1 _ _ 2 _ rfl
  · intro o; rw [← s1]; exact frozen_new _ _ _ _

theorem all_t (W : World) (t q : Nat) (gs : List Nat) (keep : Nat) (gone last : Int) (l : List Mk) (h : TS W t q gs keep gone last l) :
    Calls Tryz.prog 27 #[.pointer (some ⟨t, 0, none⟩)] W fun e w' => ∃ v, e = .returned (.tuple #[v, .int .i64 gone]) ∧ w'.ownsRow W.heap.size 24 5 v l.length (flat l) ∧ Below W.heap.size W w' := by
  have KS : Hid (∀ w', Below W.heap.size W w' → w'.cell? ⟨t, 0, none⟩ = some (.pointer (some ⟨q, 0, none⟩)) ∧ w'.cell? ⟨t, 1, none⟩ = some (.int .i64 gone)) := fun w' hb => by
    have h3 := h.t3.of_block hb.size (hb.block t h.t3.lt)
    exact ⟨h3.c0, h3.c1⟩
  have LQ := Lib.hid (fun w' hb => list_q w' q gs keep l ((h.below hb).qs) h.k2)
  have hqd : Below W.heap.size W W.drew := (Below.refl _ _).drew
  obtain ⟨d0, d1⟩ := KS.out _ (Below.refl _ _)
  clear h
  go_enter Tryz.func27, Tryz.ntmps27
  go_wp2_with fail
  go_region_held3 (fun w' => w'.cell? ⟨t, 0, none⟩ = some (.pointer (some ⟨q, 0, none⟩)) ∧ w'.cell? ⟨t, 1, none⟩ = some (.int .i64 gone)) ((first | exact KS.out _ hqd | exact KS.out _ hq2)) ((first | (go_at_call 55; refine (LQ.out _ hqd).mono ?_; rintro e w2 ⟨v, rfl, hown, hbe⟩; have hq2 := hqd.trans hbe)))
  go_wp2_with fail
  go_ret2
  exact ⟨_, rfl, hown, hq2⟩
end Go.Proofs.YtohodbpjcbjifaaGreatDoor
