/- Queues of marks: List. -/
import Derived.Test.YtohodbpjcbjifaaGreatDoorQb
import Derived.Test.YtohodbpjcbjifaaGreatDoorQt
import Derived.Deep.QuietTactic
import Derived.Deep.RegionHeld3
import Derived.Deep.RegionLaw
import Derived.Laws.AppendOwn
namespace Go.Proofs.YtohodbpjcbjifaaGreatDoor
open Go Go.RowKit Go.ChangeShapes Go.WideShapes
set_option linter.unusedVariables false
set_option maxRecDepth 100000
set_option maxHeartbeats 800000

/-- The cells of marks, one behind the other. -/
def flat (l : List Mk) : List Value := l.flatMap Mk.cells
theorem flat_nil : flat [] = [] := rfl
theorem flat_snoc (l : List Mk) (m : Mk) : flat (l ++ [m]) = flat l ++ m.cells := by simp [flat]
theorem flat_length (l : List Mk) : (flat l).length = l.length * 5 := by
  induction l with
  | nil => rfl
  | cons a l ih => simp only [flat, List.flatMap_cons, List.length_append, List.length_cons] at *; rw [ih]; simp [Mk.cells]; omega
theorem flat_get (l : List Mk) (i c : Nat) (hi : i < l.length) (hc : c < 5) : (flat l)[i * 5 + c]? = (l.getD i default).cells[c]? := by
  induction l generalizing i with
  | nil => simp at hi
  | cons a l ih =>
    have e : flat (a :: l) = a.cells ++ flat l := rfl
    cases i with
    | zero =>
      rw [e, List.getElem?_append_left (by simp [Mk.cells]; omega)]
      simp
    | succ i =>
      rw [e, List.getElem?_append_right (by simp [Mk.cells]; omega)]
      have : (i + 1) * 5 + c - a.cells.length = i * 5 + c := by simp [Mk.cells]; omega
      rw [this, ih i (by simpa using hi)]
      simp
theorem cells_one (m : Mk) : ∀ u ∈ m.cells, u.oneCell' = true := by
  intro u hu
  simp [Mk.cells] at hu
  rcases hu with rfl | rfl | rfl | rfl | rfl <;> rfl

/-- A row of the call's own reads as the marks that it holds. -/
theorem RM_own {w : World} {B : Nat} {e : TypeId} {v : Value} {n : Nat} {l : List Mk} (h : w.ownsRow B e 5 v n (flat l)) : RM w v l ∧ l.length = n := by
  obtain ⟨hl, h⟩ := h
  rw [flat_length] at hl
  have hl' : l.length = n := by omega
  refine ⟨?_, hl'⟩
  rcases h with ⟨rfl, rfl⟩ | ⟨g, cap, cur, rfl, hg, hh, hn, hc, hs, ht⟩
  · obtain rfl : l = [] := List.eq_nil_of_length_eq_zero hl'
    exact RM_nil w
  · refine .inr ⟨g, 0, cap, by rw [hl'], by omega, ?_, fun i hi => ?_⟩
    · rcases Nat.lt_or_ge g w.heap.size with h | h
      · exact h
      · rw [Array.getElem?_eq_none h] at hh; cases hh
    · have one : ∀ c v, c < 5 → (l.getD i default).cells[c]? = some v → w.cell? ⟨g, 0 + i * 5 + c, none⟩ = some v := by
        intro c v hc5 hv
        have e1 : cur.toList[i * 5 + c]? = (flat l)[i * 5 + c]? := by rw [← ht, List.getElem?_take, if_pos (by omega)]
        rw [flat_get l i c hi hc5, hv] at e1
        simp only [World.cell?, hh, Nat.zero_add]
        simpa using e1
      exact ⟨one 0 _ (by decide) rfl, one 1 _ (by decide) rfl, one 2 _ (by decide) rfl, one 3 _ (by decide) rfl, one 4 _ (by decide) rfl⟩

/-- 'append(s, m)' of a mark, onto a row of the call's own. -/
theorem append5 {ops : Array Oper} {rest : List Oper} {o : Oper} {a : Act} {Q : Exit → Act → World → Prop} {W w0 : World} (hgd : o.guard = none) (s x : Operand) (t : TypeId)
    (ho : o.op = .call { callee := .builtin .append, args := #[s, x], argTypes := #[t, t] })
    (base : Nat) (e : TypeId) (i : TypeInfo) (z : Value) (ht : Tryz.prog.underlying t = some (.slice e)) (hi : Tryz.prog.info? e = some i) (hz : i.zero = some z)
    (hsize : i.size = 5) (hby : i.bytes = 40) (hzs : z.cells.size = 5)
    (v : Value) (n : Nat) (l : List Mk) (hs : a.eval s = v) (hown : w0.ownsRow base e 5 v n (flat l))
    (c : Nat) (m : Mk) (hx : a.eval x = .slice (some ⟨w0.heap.size, 0, none⟩) 1 c)
    (h63 : n + 1 ≤ 3518437208883) (hbase : base ≤ w0.heap.size) (hb : Below base W w0)
    (h : ∀ v' w', w'.ownsRow base e 5 v' (n + 1) (flat (l ++ [m])) → Below base W w' → Ch (fun k => v.ownBlock = some k) w0 w' → wpList Tryz.prog ops Q rest (a.put o.dst v') w') :
    wpList Tryz.prog ops Q (o :: rest) a (w0.alloc (.cells #[.int .i64 m.t, .int .i64 m.k, .int .i64 m.h, .int .i64 m.j, .int .i64 m.n] e)) := by
  refine wpList_append_own _ hgd s x t ho base e i z 5 40 ht hi hz hsize hby hzs (by decide) v n (flat l) hs (hown.alloc _) ⟨w0.heap.size, 0, none⟩ 1 c m.cells hx rfl ?_ (cells_one m) (by unfold maxLen; omega) (by omega) (by simp; omega) ?_
  · intro j y hj
    have hp : (⟨w0.heap.size, 0, none⟩ : Addr).add j = ⟨w0.heap.size, j, none⟩ := by unfold Addr.add; split <;> simp_all
    rw [hp]
    exact cell_new w0 _ _ j y (by simpa [Mk.cells] using hj)
  · intro v' w' ho' hg' _
    refine h v' w' (by rw [flat_snoc]; exact ho') (below_own (hb.alloc hbase _) (by simp; omega) (hown.alloc _) hg') ?_
    exact ⟨hg'.os, hg'.tape, hg'.output, by have := hg'.size; simp at this; omega, fun k hk hS => (hg'.block k (by simp; omega) (fun e => hS e.symm)).trans (Below.heap_alloc _ _ _ hk)⟩

/-- .. met in a region that draws its order. -/
theorem step_append5 {ops : Array Oper} {o : Oper} {a : Act} {K : Act → World → Prop} {Q : Exit → Act → World → Prop} {E : Prop} {W w0 : World} (hgd : o.guard = none) (s x : Operand) (t : TypeId)
    (ho : o.op = .call { callee := .builtin .append, args := #[s, x], argTypes := #[t, t] })
    (base : Nat) (e : TypeId) (i : TypeInfo) (z : Value) (ht : Tryz.prog.underlying t = some (.slice e)) (hi : Tryz.prog.info? e = some i) (hz : i.zero = some z)
    (hsize : i.size = 5) (hby : i.bytes = 40) (hzs : z.cells.size = 5)
    (v : Value) (n : Nat) (l : List Mk) (hs : a.eval s = v) (hown : w0.ownsRow base e 5 v n (flat l))
    (c : Nat) (m : Mk) (hx : a.eval x = .slice (some ⟨w0.heap.size, 0, none⟩) 1 c)
    (h63 : n + 1 ≤ 3518437208883) (hbase : base ≤ w0.heap.size) (hb : Below base W w0)
    (h : ∀ v' w', w'.ownsRow base e 5 v' (n + 1) (flat (l ++ [m])) → Below base W w' → Ch (fun k => v.ownBlock = some k) w0 w' → K (a.put o.dst v') w') :
    if Region.wanted o (yielded ops a.tmps) = true then o.wp Tryz.prog a (w0.alloc (.cells #[.int .i64 m.t, .int .i64 m.k, .int .i64 m.h, .int .i64 m.j, .int .i64 m.n] e)) K Q else E := by
  have hw : Region.wanted o (yielded ops a.tmps) = true := by simp [Region.wanted, hgd]
  rw [if_pos hw]
  refine wp_append_own _ s x t ho base e i z 5 40 ht hi hz hsize hby hzs (by decide) v n (flat l) hs (hown.alloc _) ⟨w0.heap.size, 0, none⟩ 1 c m.cells hx rfl ?_ (cells_one m) (by unfold maxLen; omega) (by omega) (by simp; omega) ?_
  · intro j y hj
    have hp : (⟨w0.heap.size, 0, none⟩ : Addr).add j = ⟨w0.heap.size, j, none⟩ := by unfold Addr.add; split <;> simp_all
    rw [hp]
    exact cell_new w0 _ _ j y (by simpa [Mk.cells] using hj)
  · intro v' w' ho' hg' _
    refine h v' w' (by rw [flat_snoc]; exact ho') (below_own (hb.alloc hbase _) (by simp; omega) (hown.alloc _) hg') ?_
    exact ⟨hg'.os, hg'.tape, hg'.output, by have := hg'.size; simp at this; omega, fun k hk hS => (hg'.block k (by simp; omega) (fun e => hS e.symm)).trans (Below.heap_alloc _ _ _ hk)⟩

theorem RM.drewN {w : World} {v : Value} {l : List Mk} (h : RM w v l) (n : Nat) : RM (w.drewN n) v l := h.of_block (Nat.le_refl _) (fun _ _ => rfl)
theorem own_drewN {w : World} {B : Nat} {e : TypeId} {s : Nat} {v : Value} {n : Nat} {l : List Value} (h : w.ownsRow B e s v n l) (k : Nat) : (w.drewN k).ownsRow B e s v n l := h

theorem own_qt {w w' : World} {B : Nat} {e : TypeId} {s : Nat} {v : Value} {n : Nat} {l : List Value} (h : w.ownsRow B e s v n l) (q : Qt w.drew w') : w'.ownsRow B e s v n l := by
  obtain ⟨n, rfl⟩ := q
  exact h

/-- The marks of a ring, from a place on. -/
def ringList (ms : Nat → Mk) (f R n : Nat) : List Mk := (List.range n).map fun i => ms ((f + i) % R)
theorem ringList_succ (ms : Nat → Mk) (f R n : Nat) : ringList ms f R (n + 1) = ringList ms f R n ++ [ms ((f + n) % R)] := by
  simp [ringList, List.range_succ]
theorem ringList_length (ms : Nat → Mk) (f R n : Nat) : (ringList ms f R n).length = n := by simp [ringList]

theorem Tryz.infoMark : (Tryz.prog.info? 24).map (fun i => (i.zero, i.size, i.bytes)) = some (some Mk.zero.val, 5, 40) := by kernel_rfl
theorem info_of {P : Program} {e : TypeId} {z : Value} {s b : Nat} (h : (P.info? e).map (fun i => (i.zero, i.size, i.bytes)) = some (some z, s, b)) : ∃ i, P.info? e = some i ∧ i.zero = some z ∧ i.size = s ∧ i.bytes = b := by
  cases hi : P.info? e with
  | none => rw [hi] at h; cases h
  | some i => rw [hi] at h; simp at h; exact ⟨i, rfl, h.1, h.2.1, h.2.2⟩

theorem list_t (W : World) (b g R c : Nat) (f n : Nat) (l : Int) (ms : Nat → Mk) (h : Q4 W b (.slice (some ⟨g, 0, none⟩) R c) f n l) (hR : 0 < R) (hR' : R ≤ 4096) (hRc : R ≤ c) (hf : f < R) (hn : n ≤ R) (hr : Ring W g R ms) :
    Calls Tryz.prog 55 #[.pointer (some ⟨b, 0, none⟩)] W fun e w' => ∃ v, e = .returned v ∧ w'.ownsRow W.heap.size 24 5 v n (flat (ringList ms f R n)) ∧ Below W.heap.size W w' := by
  obtain ⟨i0, hi, hz0, hz1, hz2⟩ := info_of Tryz.infoMark
  have H4 := Lib.hid h
  have HR := Lib.hid hr
  have LN := Lib.hid (len_t W b _ _ _ _ h)
  clear h hr
  go_enter Tryz.func55, Tryz.ntmps55
  go_wp2_with fail
  refine LN.out.mono ?_
  rintro e w' ⟨rfl, rfl⟩
  go_wp2_with fail
  go_loopw [3, 7] (fun v i wr => ∃ k : Nat, k ≤ n ∧ i = .int .i64 k ∧ wr.ownsRow W.heap.size 24 5 v k (flat (ringList ms f R k)) ∧ Below W.heap.size W wr) (fun _ i _ => n - (intOf i).toNat)
  case atStart => exact ⟨0, Nat.zero_le _, rfl, World.ownsRow_nil _ _ _ _, Below.refl _ _⟩
  case round =>
    obtain ⟨k, hk, rfl, hown, hbe⟩ := hrel
    by_cases hlt : k < n
    · have q4 : Q4 wr b (.slice (some ⟨g, 0, none⟩) R c) f n l := H4.out.of_block hbe.size (hbe.block b H4.out.lt)
      have rg : Ring wr g R ms := HR.out.of_block hbe.size (hbe.block g HR.out.lt)
      have hkn : (k : Int) < (n : Int) := by omega
      have hj : (f + k) % R < R := Nat.mod_lt _ hR
      have hx := rg.at5 _ hj
      have AT := Lib.hid (fun w' q => at_t w' b (some ⟨g, 0, none⟩) f n l R c k q hR hR' ⟨by omega, by omega⟩ (by omega))
      have ej : ((f : Int) + (k : Int)) % (R : Int) = (((f + k) % R : Nat) : Int) := by simp
      simp only [ej] at AT
      have SN := Lib.hid (ringList_succ ms f R k)
      have KP : Hid (∀ w', Below W.heap.size wr w' → w'.cell? ⟨b, 0, none⟩ = some (.slice (some ⟨g, 0, none⟩) R c) ∧ At5 w' g ((f + k) % R * 5) (ms ((f + k) % R))) := by
        intro w' hw
        exact ⟨(hw.cell (p := ⟨b, 0, none⟩) H4.out.lt).trans q4.c0, hx.of_block (hw.block g HR.out.lt)⟩
      clear ej rg
      generalize (f + k) % R = j at *
      generalize ms j = m at *
      have hjR : (j : Int) < (R : Int) := by omega
      have KQ : Hid (∀ w', Below W.heap.size wr w' → w'.cell? ⟨b, 0, none⟩ = some (.slice (some ⟨g, 0, none⟩) R c) ∧ w'.cell? ⟨g, j * 5, none⟩ = some (.int .i64 m.t) ∧ w'.cell? ⟨g, j * 5 + 1, none⟩ = some (.int .i64 m.k) ∧ w'.cell? ⟨g, j * 5 + 2, none⟩ = some (.int .i64 m.h) ∧ w'.cell? ⟨g, j * 5 + 3, none⟩ = some (.int .i64 m.j) ∧ w'.cell? ⟨g, j * 5 + 4, none⟩ = some (.int .i64 m.n)) := by
        intro w' hw
        obtain ⟨e, e0, e1, e2, e3, e4⟩ := KP.out w' hw
        exact ⟨e, e0, e1, e2, e3, e4⟩
      obtain ⟨lt, c0, c1, c2, c3, fr⟩ := q4
      obtain ⟨x0, x1, x2, x3, x4⟩ := hx
      have hqd := (Below.refl W.heap.size wr).drew
      go_wp2_with fail
      go_region_held3 (fun w' => w'.cell? ⟨b, 0, none⟩ = some (.slice (some ⟨g, 0, none⟩) R c) ∧ w'.cell? ⟨g, j * 5, none⟩ = some (.int .i64 m.t) ∧ w'.cell? ⟨g, j * 5 + 1, none⟩ = some (.int .i64 m.k) ∧ w'.cell? ⟨g, j * 5 + 2, none⟩ = some (.int .i64 m.h) ∧ w'.cell? ⟨g, j * 5 + 3, none⟩ = some (.int .i64 m.j) ∧ w'.cell? ⟨g, j * 5 + 4, none⟩ = some (.int .i64 m.n)) ((first | exact KQ.out _ hqd | exact KQ.out _ hqe | exact KQ.out _ (hqe.alloc hbs _) | exact KQ.out _ hqf)) ((first | (go_at_call 78; refine (AT.out _ (H4.out.of_block (hbe.drew).size ((hbe.drew).block b H4.out.lt))).mono ?_; rintro e w2 ⟨rfl, hq2⟩; have hqe := hqd.trans hq2.below; have hbs := Nat.le_trans hbe.size hqe.size; have hown2 := own_qt hown hq2) | (refine step_append5 rfl _ _ 53 rfl W.heap.size 24 i0 _ Tryz.underlying53 hi hz0 hz1 hz2 rfl _ _ _ rfl hown2 _ m rfl (by omega) hbs hqe ?_; intro v' w3 hown3 hqf hch)))
      go_wp2
      go_roundw
      case rel => exact ⟨k + 1, by omega, by go_num, by rw [SN.out]; exact hown3, hbe.trans hqf⟩
      case measure => simp [intOf]; omega
    · obtain rfl : k = n := by omega
      go_wp2
      go_ret
      exact ⟨_, rfl, hown, hbe⟩
end Go.Proofs.YtohodbpjcbjifaaGreatDoor
