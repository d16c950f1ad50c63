/- slices.DeleteFunc at marks; trace.Of. -/
import Derived.Test.YtpaffemjdffoiaaOb
import Derived.Laws.CopyRow
import Derived.StillTailTactics
namespace Go.Proofs.Ytpaffemjdffoiaa
open Go Go.RowKit Go.ChangeShapes Go.WideShapes
set_option linter.unusedVariables false
set_option maxRecDepth 100000
set_option maxHeartbeats 800000

theorem zeroMark (w : World) : (zeroValue 32).run Try.prog w = .ok Mk.zero.val w := by kernel_rfl

/-- 'clear(s)' of marks: what stands ahead of them in the row stays. -/
theorem run_clear5 (w : World) (ty : TypeId) (g i m c : Nat) (cur : Array Value) (hg : w.heap[g]? = some (.cells cur 32 (0, 0))) (hm : 0 < m) (hfit : (i + m) * 5 ≤ cur.size) :
    ∃ w', (Builtin.clear_ #[29] ty #[.slice (some ⟨g, i * 5, none⟩) m c]).run Try.prog w = .ok (.tuple #[]) w' ∧ Ch (fun k => k = g) w w' ∧ ∀ o, o < i * 5 → w'.cell? ⟨g, o, none⟩ = w.cell? ⟨g, o, none⟩ := by
  obtain ⟨zs, hzs⟩ : ∃ zs, zs = (Builtin.zeroCells Mk.zero.val.cells m).toList := ⟨_, rfl⟩
  have hl : zs.length = m * 5 := by rw [hzs, Array.length_toList, size_zeroCells]; rfl
  have h1 : ∀ v ∈ zs, v.oneCell' = true := by
    intro v hv
    rw [hzs] at hv
    simp only [Builtin.zeroCells, Array.toList_map, List.mem_map] at hv
    obtain ⟨q, _, rfl⟩ := hv
    have hq : q % 5 < 5 := Nat.mod_lt _ (by decide)
    have e5 : Mk.zero.val.cells.size = 5 := rfl
    rw [e5]
    have : q % 5 = 0 ∨ q % 5 = 1 ∨ q % 5 = 2 ∨ q % 5 = 3 ∨ q % 5 = 4 := by omega
    rcases this with h | h | h | h | h <;> rw [h] <;> rfl
  have hst := run_storeCells_at Try.prog g (i * 5) 32 zs 0 cur w hg (by rw [hl]; omega) h1
  obtain ⟨m', rfl⟩ : ∃ m', m = m' + 1 := ⟨m - 1, by omega⟩
  refine ⟨w.setRow g (cur.toList.take (i * 5 + 0) ++ zs ++ cur.toList.drop (i * 5 + 0 + zs.length)).toArray, ?_, ?_, ?_⟩
  · simp only [Builtin.clear_, List.getElem?_toArray, List.getElem?_cons_zero, Sem.run_bind, run_underlying Try.underlying29, Result.andThen_ok, zeroMark, ← hzs, hst, Sem.run_pure]
  · exact ⟨rfl, rfl, rfl, by simp, fun k _ hS => setRow_other _ _ _ _ hS⟩
  · intro o ho
    rw [cell_setRow_same w g o _ _ _ _ hg]
    simp only [World.cell?, hg]
    simp [List.getElem?_append_left, show o < i * 5 by omega, show i * 5 ≤ cur.size by omega]

/-- .. for the walk. -/
theorem wpList_cleared {P : Program} {w : World} {ops : Array Oper} {rest : List Oper} {o : Oper} {a : Act} {Q : Exit → Act → World → Prop} (hgd : o.guard = none) (d : Operand) (t : TypeId)
    (ho : o.op = .call { callee := .builtin .clear, args := #[d], argTypes := #[t] }) (v : Value) (hd : a.eval d = v) {v' : Value} {w' : World}
    (hr : (Builtin.clear_ #[t] o.type #[v]).run P w = .ok v' w') (h : wpList P ops Q rest (a.put o.dst v') w') : wpList P ops Q (o :: rest) a w := by
  refine wpList_plain hgd fun K hK => ?_
  unfold Oper.wp
  simp [execOp, ho, resolve, invoke, builtin, hd, hr, Result.andThen]
  exact hK _ _ h

/-- A block of so many cells of marks. -/
def HasRow (w : World) (g n : Nat) : Prop := ∃ cur, w.heap[g]? = some (.cells cur 32 (0, 0)) ∧ n ≤ cur.size
theorem HasRow.of_block {w w' : World} {g n : Nat} (h : HasRow w g n) (e : w'.heap[g]? = w.heap[g]?) : HasRow w' g n := by
  obtain ⟨cur, h1, h2⟩ := h
  exact ⟨cur, e.trans h1, h2⟩
theorem HasRow.set {w : World} {g n : Nat} (h : HasRow w g n) (b o : Nat) (v : Value) : HasRow (w.setCell ⟨b, o, none⟩ v) g n := by
  obtain ⟨cur, h1, h2⟩ := h
  by_cases e : g = b
  · subst e
    exact ⟨cur.setIfInBounds o v, by simp [World.setCell, Array.getElem?_modify, h1], by simpa using h2⟩
  · exact ⟨cur, (Below.heap_setCell _ ⟨b, o, none⟩ _ _ e).trans h1, h2⟩
theorem HasRow.put {w : World} {g n : Nat} (h : HasRow w g n) (g' o : Nat) (m : Mk) : HasRow (put5 w g' o m) g n := ((((h.set _ _ _).set _ _ _).set _ _ _).set _ _ _).set _ _ _
theorem Ring_own {w : World} {B n : Nat} {g cap : Nat} {l : List Mk} (h : w.ownsRow B 32 5 (.slice (some ⟨g, 0, none⟩) n cap) n (flat l)) : Ring w g n (fun j => l.getD j default) ∧ HasRow w g (n * 5) ∧ B ≤ g ∧ n ≤ cap ∧ l.length = n := by
  have rm := RM_own h
  obtain ⟨h1, h2⟩ := h
  rcases h2 with ⟨h, _⟩ | ⟨g', cap', cur, e, hg, hh, hn, hc, hs, ht⟩
  · cases h
  · injection e with e1 e2 e3
    injection e1 with e1
    injection e1 with e4 e5
    subst e3 e4
    refine ⟨⟨(Array.getElem?_eq_some_iff.1 hh).1, fun o => by simp [World.frozen?, hh], ?_⟩, ⟨cur, hh, by rw [hs]; exact Nat.mul_le_mul_right 5 hn⟩, hg, hn, rm.2⟩
    rcases rm.1 with ⟨h0, _⟩ | ⟨b, off, c2, e', _, _, hr⟩
    · intro j hj; rw [h0] at rm; simp at rm; omega
    · injection e' with e1 e2 e3
      injection e1 with e1
      injection e1 with e4 e5
      subst e4 e5
      intro j hj
      have := hr j (by omega)
      simpa using this

/-- The marks that are kept. -/
def ofL (l : List Mk) (node : Int) : List Mk := l.filter fun m => m.h == node
theorem ofL_snoc (l : List Mk) (m : Mk) (node : Int) : ofL (l ++ [m]) node = ofL l node ++ (if m.h = node then [m] else []) := by
  unfold ofL
  rw [List.filter_append]
  by_cases h : m.h = node <;> simp [h]
theorem ofL_all (l : List Mk) (node : Int) (h : ∀ j, j < l.length → (l.getD j default).h = node) : ofL l node = l := by
  unfold ofL
  rw [List.filter_eq_self]
  intro m hm
  obtain ⟨j, hj, rfl⟩ := List.getElem_of_mem hm
  have := h j hj
  simpa [List.getD, List.getElem?_eq_getElem hj] using this
theorem take_succ_getD (l : List Mk) (k : Nat) (h : k < l.length) : l.take (k + 1) = l.take k ++ [l.getD k default] := by
  rw [List.take_succ_eq_append_getElem h, List.getD, List.getElem?_eq_getElem h]; rfl
/-- The relation of the loop of DeleteFunc. -/
structure DelR (W wr : World) (g n : Nat) (l : List Mk) (node : Int) (i j : Nat) (ms : Nat → Mk) : Prop where
  ij : i < j
  jn : j ≤ n
  ring : Ring wr g n ms
  row : HasRow wr g (n * 5)
  rest : ∀ x, j ≤ x → x < n → ms x = l.getD x default
  kept : (List.range i).map ms = ofL (l.take j) node
  ch : Ch (fun k => k = g) W wr
theorem DelR.start {W wr : World} {g n : Nat} {l : List Mk} {node : Int} {k : Nat} (hk : idxIs l node k) (hkn : k < n) (hl : l.length = n) (r : Ring wr g n (fun j => l.getD j default)) (hr : HasRow wr g (n * 5)) (ch : Ch (fun k => k = g) W wr) : DelR W wr g n l node k (k + 1) (fun j => l.getD j default) := by
  refine ⟨by omega, by omega, r, hr, fun x _ _ => rfl, ?_, ch⟩
  obtain ⟨_, h2, h3⟩ := hk
  rw [take_succ_getD l k (by omega), ofL_snoc, if_neg (h3 (by omega)), List.append_nil, ofL_all]
  · apply List.ext_getElem?
    intro i
    by_cases hi : i < k
    · rw [List.getElem?_map, List.getElem?_range hi, List.getElem?_take, if_pos hi]
      simp [List.getD, List.getElem?_eq_getElem (show i < l.length by omega)]
    · rw [List.getElem?_eq_none (by simp; omega), List.getElem?_eq_none (by simp; omega)]
  · intro j hj
    have hj' : j < k := by simp at hj; omega
    have := h2 j hj'
    simpa [List.getD, List.getElem?_take, hj'] using this
theorem DelR.skip {W wr w2 : World} {g n : Nat} {l : List Mk} {node : Int} {i j : Nat} {ms : Nat → Mk} (h : DelR W wr g n l node i j ms) (hj : j < n) (hl : l.length = n) (hm : ¬ (ms j).h = node) (hb : Below wr.heap.size wr w2) : DelR W w2 g n l node i (j + 1) ms := by
  have e := hb.block g h.ring.lt
  refine ⟨by have := h.ij; omega, by omega, h.ring.of_block hb.size e, h.row.of_block e, fun x h1 h2 => h.rest x (by omega) h2, ?_, h.ch.trans (Ch.of_below hb _) (fun _ h => .inl h)⟩
  rw [take_succ_getD l j (by omega), ofL_snoc, ← h.rest j (Nat.le_refl _) hj, if_neg hm, List.append_nil]
  exact h.kept
theorem DelR.keep {W wr w2 : World} {g n : Nat} {l : List Mk} {node : Int} {i j : Nat} {ms : Nat → Mk} (h : DelR W wr g n l node i j ms) (hj : j < n) (hl : l.length = n) (m : Mk) (hmj : ms j = m) (hm : m.h = node) (hb : Below wr.heap.size wr w2) : DelR W (put5 w2 g (i * 5) m) g n l node (i + 1) (j + 1) (fun x => if x = i then m else ms x) := by
  have e := hb.block g h.ring.lt
  have hij := h.ij
  refine ⟨by omega, by omega, (h.ring.of_block hb.size e).put i (by omega) m, (h.row.of_block e).put _ _ _, fun x h1 h2 => ?_, ?_, (h.ch.trans (Ch.of_below hb _) (fun _ h => .inl h)).put g (.inl rfl) _ _⟩
  · show (if x = i then m else ms x) = _
    rw [if_neg (by omega)]
    exact h.rest x (by omega) h2
  · rw [take_succ_getD l j (by omega), ofL_snoc, ← h.rest j (Nat.le_refl _) hj, hmj, if_pos hm, ← h.kept, List.range_succ, List.map_append]
    congr 1
    · apply List.map_congr_left
      intro x hx
      have := List.mem_range.1 hx
      show (if x = i then m else ms x) = _
      rw [if_neg (by omega)]
    · simp
theorem DelR.done {W wr w2 : World} {g n c : Nat} {l : List Mk} {node : Int} {i : Nat} {ms : Nat → Mk} (h : DelR W wr g n l node i n ms) (hl : l.length = n) (hnc : n ≤ c) (ch : Ch (fun k => k = g) wr w2) (hc : ∀ o, o < i * 5 → w2.cell? ⟨g, o, none⟩ = wr.cell? ⟨g, o, none⟩) : RM w2 (.slice (some ⟨g, 0, none⟩) i c) (ofL l node) ∧ Ch (fun k => k = g) W w2 := by
  have hk := h.kept
  rw [List.take_of_length_le (by omega)] at hk
  refine ⟨?_, h.ch.trans ch (fun _ h => .inl h)⟩
  rw [← hk]
  have hij := h.ij
  refine .inr ⟨g, 0, c, by simp, by simp; omega, Nat.lt_of_lt_of_le h.ring.lt ch.size, fun x hx => ?_⟩
  have hx' : x < i := by simpa using hx
  have a := h.ring.at5 x (by omega)
  have e : ((List.range i).map ms).getD x default = ms x := by simp [List.getD, List.getElem?_range hx']
  rw [e, Nat.zero_add]
  exact ⟨(hc _ (by omega)).trans a.c0, (hc _ (by omega)).trans a.c1, (hc _ (by omega)).trans a.c2, (hc _ (by omega)).trans a.c3, (hc _ (by omega)).trans a.c4⟩

theorem delete_t (W : World) (v : Value) (l : List Mk) (b B : Nat) (node : Int) (hv : W.ownsRow B 32 5 v l.length (flat l)) (hl : l.length ≤ 3518437208780) (hb : b < B) (hbl : b < W.heap.size) (hc : W.cell? ⟨b, 0, none⟩ = some (.int .i64 node)) :
    Calls Try.prog 20 #[v, delV b] W fun e w' => ∃ v', e = .returned v' ∧ RM w' v' (ofL l node) ∧ Ch (fun k => v.ownBlock = some k) W w' := by
  have IX := index_t W v l b node (RM_own hv).1 hl hbl hc
  have form : (v = .slice none 0 0 ∧ l.length = 0) ∨ ∃ g cap, v = .slice (some ⟨g, 0, none⟩) l.length cap := by
    rcases hv.2 with ⟨h, h'⟩ | ⟨g, cap, cur, h, _⟩
    · exact .inl ⟨h, h'⟩
    · exact .inr ⟨g, cap, h⟩
  have all : ∀ k, idxIs l node k → k = l.length → ofL l node = l := fun k hk e => ofL_all l node (fun j hj => hk.2.1 j (by omega))
  have IXH := Lib.hid IX
  have ALL := Lib.hid all
  have HV := Lib.hid hv
  have HC := Lib.hid hc
  clear IX all hc
  rcases form with ⟨rfl, h0⟩ | ⟨g, c, rfl⟩
  · clear hv
    go_enter Try.func20, Try.ntmps20
    go_wp2_with fail
    refine IXH.out.mono ?_
    rintro e w1 ⟨k, hk, rfl, hb1⟩
    rw [if_neg (by omega)]
    have hk' : k = l.length := by have := hk.1; omega
    have RM1 := Lib.hid (show RM w1 (.slice none 0 0) (ofL l node) from by rw [ALL.out k hk hk']; exact (RM_own HV.out).1.below hb1)
    clear hk hk'
    go_wp2_with fail
    go_ret
    exact ⟨_, rfl, RM1.out, Ch.of_below hb1 _⟩
  · obtain ⟨r0, h0, hB, hnc, _⟩ := Ring_own hv
    clear hv
    go_enter Try.func20, Try.ntmps20
    go_wp2_with fail
    refine IXH.out.mono ?_
    rintro e w1 ⟨k, hk, rfl, hb1⟩
    by_cases hkl : k < l.length
    · rw [if_pos hkl]
      have DR := Lib.hid (DelR.start hk hkl rfl (r0.of_block hb1.size (hb1.block g r0.lt)) (h0.of_block (hb1.block g r0.lt)) (Ch.of_below hb1 _))
      have hkm : ((k : Int) == -1) = false := by rw [beq_eq_false_iff_ne]; omega
      have hkb : (k : Int) ≤ 3518437208780 := by omega
      clear hk r0 h0
      go_wp2_with fail
      go_loopw [5, 6] (fun i j wr => ∃ i' j' ms, DelR W wr g l.length l node i' j' ms ∧ i = .int .i64 (i' : Nat) ∧ j = .int .i64 (j' : Nat)) (fun _ j _ => l.length - (intOf j).toNat)
      case atStart => exact ⟨k, k + 1, _, DR.out, by go_num, by go_num⟩
      case round =>
        obtain ⟨i, j, ms, dr, rfl, rfl⟩ := hrel
        have hij := dr.ij
        have hjn' := dr.jn
        by_cases hlt : j < l.length
        · have hjn : (j : Int) < (l.length : Int) := by omega
          have hx := dr.ring.at5 j hlt
          have DRH := Lib.hid dr
          have DT := Lib.hid (fun m w' (hb : Below wr.heap.size wr w') => del_t w' m b node (Nat.lt_of_lt_of_le hbl (Nat.le_trans dr.ch.size hb.size)) ((World.cell?_of_block (hb.block b (Nat.lt_of_lt_of_le hbl dr.ch.size))).trans ((World.cell?_of_block (dr.ch.block b hbl (by omega))).trans HC.out)))
          clear dr
          obtain ⟨m, hm⟩ : ∃ m, ms j = m := ⟨_, rfl⟩
          rw [hm] at hx
          have HM := Lib.hid hm
          clear hm
          obtain ⟨x0, x1, x2, x3, x4⟩ := hx
          go_wp2_with fail
          refine (DT.out m _ ((Below.refl _ _).alloc (Nat.le_refl _) _)).mono ?_
          rintro e w2 ⟨rfl, hb2⟩
          have be2 : Below wr.heap.size wr w2 := ((Below.refl _ _).alloc (Nat.le_refl _) _).trans (hb2.mono (by simp))
          have bx : At5 w2 wr.heap.size 0 m := (At5_box wr m).of_block (hb2.block _ (by simp))
          have hi5 : i < l.length := by omega
          have hin : (i : Int) < (l.length : Int) := by omega
          have hjb : (j : Int) ≤ 3518437208780 := by omega
          have hib : (i : Int) ≤ 3518437208780 := by omega
          by_cases hk' : m.h = node
          · have e1 : (m.h != node) = false := by simp [hk']
            have KP := Lib.hid (DRH.out.keep hlt rfl m HM.out hk' be2)
            have r2 := DRH.out.ring.of_block be2.size (be2.block g DRH.out.ring.lt)
            rw [e1]
            clear e1 hk' x0 x1 x2 x3 x4 hb2 be2
            obtain ⟨y0, y1, y2, y3, y4⟩ := bx
            simp only [Nat.zero_add] at y1 y2 y3 y4
            obtain ⟨z0, z1, z2, z3, z4⟩ := r2.at5 i hi5
            have zf := r2.fr
            have zl := r2.lt
            clear r2
            go_wp2_with fail
            go_roundw
            case rel => exact ⟨i + 1, j + 1, _, KP.out, by go_num, by go_num⟩
            case measure => simp [intOf]; omega
          · have e1 : (m.h != node) = true := by simp [hk']
            have KP := Lib.hid (DRH.out.skip hlt rfl (by rw [HM.out]; exact hk') be2)
            rw [e1]
            clear e1 hk' x0 x1 x2 x3 x4 hb2 be2
            go_wp2_with fail
            go_roundw
            case rel => exact ⟨i, j + 1, ms, KP.out, by go_num, by go_num⟩
            case measure => simp [intOf]; omega
        · obtain rfl : j = l.length := by omega
          have hib : (i : Int) ≤ 3518437208780 := by omega
          have hin : (i : Int) < (l.length : Int) := by omega
          have hcn : ¬ c = i := by omega
          obtain ⟨cur, hcur, hcs⟩ := dr.row
          obtain ⟨w3, hcl, hch, hcells⟩ := run_clear5 wr 0 g i (l.length - i) (c - i) cur hcur (by omega) (by omega)
          have DN := Lib.hid (dr.done rfl hnc hch hcells)
          clear dr hcur hcs hch hcells
          go_wp2_with fail
          go_ret
          exact ⟨_, rfl, DN.out.1, DN.out.2.mono (fun x hx => by simp [Value.ownBlock, hx])⟩
    · rw [if_neg hkl]
      have hk' : k = l.length := by have := hk.1; omega
      have RM1 := Lib.hid (show RM w1 (.slice (some ⟨g, 0, none⟩) l.length c) (ofL l node) from by rw [ALL.out k hk hk']; exact (RM_own HV.out).1.below hb1)
      clear hk hk' r0 h0
      go_wp2_with fail
      go_ret
      exact ⟨_, rfl, RM1.out, Ch.of_below hb1 _⟩

theorem of_t (W : World) (v : Value) (l : List Mk) (node : Int) (hv : RM W v l) (hl : l.length ≤ 3518437208780) :
    Calls Try.prog 10 #[v, .int .i64 node] W fun e w' => ∃ v', e = .returned v' ∧ RM w' v' (ofL l node) ∧ Below W.heap.size W w' := by
  have CL := Lib.hid (fun w h => clone_t w v l h hl)
  have HV := Lib.hid hv
  clear hv
  go_enter Try.func10, Try.ntmps10
  go_wp2_with fail
  refine (CL.out _ (HV.out.below ((Below.refl _ _).alloc (Nat.le_refl _) _))).mono ?_
  rintro e w1 ⟨v1, rfl, hown, hbe⟩
  have hc1 : w1.cell? ⟨W.heap.size, 0, none⟩ = some (.int .i64 node) := (World.cell?_of_block (hbe.block _ (by simp))).trans (cell_new W _ _ 0 _ rfl)
  have hs1 : W.heap.size < w1.heap.size := by have := hbe.size; simp at this; omega
  have DL := Lib.hid (delete_t w1 v1 l W.heap.size (W.heap.size + 1) node (by simpa using hown) hl (by omega) hs1 hc1)
  have bl : ∀ x, v1.ownBlock = some x → W.heap.size + 1 ≤ x := by
    intro x hx
    rcases hown.2 with ⟨rfl, _⟩ | ⟨g, cap, cur, rfl, hg, _⟩
    · simp [Value.ownBlock] at hx
    · simp [Value.ownBlock] at hx; simp at hg; omega
  have be1 : Below W.heap.size W w1 := ((Below.refl _ _).alloc (Nat.le_refl _) _).trans (hbe.mono (by simp))
  have BL := Lib.hid bl
  have BE := Lib.hid be1
  clear bl be1 hown hbe hc1
  go_wp2_with fail
  refine DL.out.mono ?_
  rintro e w2 ⟨v2, rfl, rm2, ch2⟩
  go_wp2_with fail
  go_ret
  exact ⟨_, rfl, rm2, BE.out.trans (ch2.below (fun x hx => by have := BL.out x hx; omega) (by omega))⟩
end Go.Proofs.Ytpaffemjdffoiaa
