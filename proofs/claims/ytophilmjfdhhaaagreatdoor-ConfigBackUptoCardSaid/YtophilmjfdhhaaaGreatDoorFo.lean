/- strings.Split and strings.Cut at any byte; the state of the parser of layer 25; climbing to a parent. -/
import Derived.Test.YtophilmjfdhhaaaGreatDoorFm
import Derived.Lib.SplitLaws
import Derived.Lib.CountLaws
namespace Go.Proofs.YtophilmjfdhhaaaGreatDoor
open Go Go.RowKit Go.Shelf Go.Sort
set_option linter.unusedVariables false
set_option linter.unusedSimpArgs false
set_option maxRecDepth 100000
set_option maxHeartbeats 1600000

theorem nil_of_size0 {s : ByteArray} (h : s.size = 0) : s = ⟨#[]⟩ := by
  obtain ⟨⟨l⟩⟩ := s
  have : l.length = 0 := h
  rw [List.eq_nil_of_length_eq_zero this]
theorem split_c (c : UInt8) : ∀ (n : Nat) (s : ByteArray), s.size ≤ n → (Lib.splitB ⟨#[c]⟩ 0 (Lib.countB s ⟨#[c]⟩) s).map (fun x => x.data.toList) = splitC c [] s.data.toList := by
  intro n
  induction n with
  | zero =>
    intro s hs
    have : s = ⟨#[]⟩ := nil_of_size0 (by omega)
    subst this
    have h : Lib.indexB ⟨#[]⟩ ⟨#[c]⟩ = -1 := by
      rcases Lib.indexB_cases ⟨#[]⟩ ⟨#[c]⟩ with h | ⟨i, _, hi⟩
      · exact h
      · have : (⟨#[c]⟩ : ByteArray).size = 1 := rfl
        have h0 : (⟨#[]⟩ : ByteArray).size = 0 := rfl
        omega
    rw [Lib.countB_miss _ _ h]
    rfl
  | succ n ih =>
    intro s hs
    have hz : (⟨#[c]⟩ : ByteArray).size = 1 := rfl
    have hc := cut_cutAt c s.data.toList
    rw [splitC_cut]
    rcases Lib.indexB_cases s ⟨#[c]⟩ with h | ⟨i, h, hroom⟩
    · have h' : Lib.index s.data.toList [c] = -1 := h
      rw [Lib.countB_miss _ _ h]
      unfold Lib.cut at hc
      rw [if_neg (by rw [h']; decide)] at hc
      simp only [Prod.mk.injEq] at hc
      have : (cutAt c s.data.toList).2 = none := by
        cases e : (cutAt c s.data.toList).2 with
        | none => rfl
        | some r => rw [e] at hc; simp at hc
      rw [this]
      simp [Lib.splitB_zero, ← hc.1]
    · have h' : Lib.index s.data.toList [c] = (i : Int) := h
      rw [Lib.countB_hit s _ i (by rw [hz]; exact Nat.le_refl _) h, Nat.add_comm, Lib.splitB_hit _ _ _ _ i h]
      unfold Lib.cut at hc
      rw [if_pos (by rw [h']; omega), h'] at hc
      simp only [Prod.mk.injEq, Int.toNat_natCast] at hc
      cases e : (cutAt c s.data.toList).2 with
      | none => rw [e] at hc; simp at hc
      | some r =>
        rw [e] at hc
        simp only [Option.getD_some] at hc
        have hsz : (s.extract (i + (⟨#[c]⟩ : ByteArray).size) s.size).size ≤ n := by rw [ByteArray.size_extract]; omega
        have := ih _ hsz
        simp only [List.map_cons]
        rw [this]
        congr 1
        · rw [extract_list]; simp [← hc.1]
        · rw [extract_list, hz, ← hc.2.1]
          congr 1
          rw [List.take_of_length_le]
          · rfl
          · simp
theorem ssplit_any (s : ByteArray) (c : UInt8) (W : World) (E : Env W) (hs : s.size < 4294967281) :
    Calls Tryz.prog 23 #[.string s, .string ⟨#[c]⟩] W fun e w' => ∃ v, e = .returned v ∧ RS w' v (splitC c [] s.data.toList) ∧ Below W.heap.size W w' := by
  obtain ⟨m, hm⟩ := E.maxlen
  refine (Tryz.strings_Split s ⟨#[c]⟩ m W hs hm (Nat.le_refl 1)).mono ?_
  rintro e w' ⟨rfl, rfl⟩
  have hsp := split_c c s.size s (Nat.le_refl _)
  have hlen := Lib.splitB_all ⟨#[c]⟩ (Nat.le_refl 1) 0 _ s rfl
  have hl : (splitC c [] s.data.toList).length = Lib.countB s ⟨#[c]⟩ + 1 := by rw [← hsp, List.length_map, hlen]
  have hcs : ((Lib.splitB ⟨#[c]⟩ 0 (Lib.countB s ⟨#[c]⟩) s).map Value.string) = (splitC c [] s.data.toList).map str := by
    rw [← hsp, List.map_map]
    rfl
  rw [hcs]
  refine ⟨_, rfl, .inr ⟨W.heap.size, 0, Lib.countB s ⟨#[c]⟩ + 1, by simp [hl], by simp [hl], by simp, fun i hi => ?_⟩, (Below.refl _ _).alloc (Nat.le_refl _) _⟩
  have hi' : i < (splitC c [] s.data.toList).length := by simpa using hi
  rw [Nat.zero_add]
  exact cell_new1 W _ _ i _ (by simp [List.getD, hi'])
theorem cut_c (s sep : ByteArray) (W : World) (E : Env W) (hs : s.size < 4294967281) :
    Calls Tryz.prog 86 #[.string s, .string sep] W fun e w' => e = .returned (.tuple #[.string ⟨(Lib.cut s.data.toList sep.data.toList).1.toArray⟩, .string ⟨(Lib.cut s.data.toList sep.data.toList).2.1.toArray⟩, .bool (Lib.cut s.data.toList sep.data.toList).2.2]) ∧ Below W.heap.size W w' := by
  obtain ⟨m, hm⟩ := E.maxlen
  refine (Tryz.strings_Cut s sep m W hs hm).mono ?_
  rintro e w' ⟨he, n, rfl⟩
  exact ⟨he, ⟨rfl, rfl, rfl, Nat.le_refl _, fun _ _ => rfl⟩⟩
theorem cut1_c (l : List UInt8) (c : UInt8) (W : World) (E : Env W) (hs : l.length < 4294967281) :
    Calls Tryz.prog 86 #[str l, .string ⟨#[c]⟩] W fun e w' => e = .returned (.tuple #[str (cutAt c l).1, str ((cutAt c l).2.getD []), .bool (cutAt c l).2.isSome]) ∧ Below W.heap.size W w' := by
  have := cut_c ⟨l.toArray⟩ ⟨#[c]⟩ W E (by rw [sz]; exact hs)
  simp only [cut_cutAt] at this
  exact this

/-- Up to the first ancestor that stands no deeper than d. -/
def climbF (l : List It) (d : Nat) : Nat → Int → Int
  | 0, i => i
  | f + 1, i => if depS l i ≤ d then i else climbF l d f (parOf l i)
def climbS (l : List It) (d : Nat) (i : Int) : Int := climbF l d (depS l i) i
theorem climbF_le {l : List It} {d : Nat} {i : Int} (h : depS l i ≤ d) : ∀ f, climbF l d f i = i
  | 0 => rfl
  | f + 1 => by rw [climbF, if_pos h]
theorem climbS_le {l : List It} {d : Nat} {i : Int} (h : depS l i ≤ d) : climbS l d i = i := climbF_le h _
theorem depS_pos {l : List It} {i : Int} (h : 0 < depS l i) : 0 ≤ i := by
  refine Classical.byContradiction fun hn => ?_
  rw [depS_neg l (by omega)] at h
  omega
theorem climbS_step {l : List It} (hw : Wl l) {d : Nat} {i : Int} (hi : i < l.length) (h : d < depS l i) : climbS l d i = climbS l d (parOf l i) := by
  have h0 := depS_pos (l := l) (i := i) (by omega)
  have hs := depS_step hw h0 hi
  unfold climbS
  rw [hs, climbF, if_neg (by omega)]
theorem climbS_bounds {l : List It} (hw : Wl l) (d : Nat) : ∀ (n : Nat) (i : Int), depS l i ≤ n → -1 ≤ i → i < l.length → -1 ≤ climbS l d i ∧ climbS l d i ≤ i
  | 0, i, hn, h0, hi => by rw [climbS_le (by omega)]; omega
  | n + 1, i, hn, h0, hi => by
    by_cases h : depS l i ≤ d
    · rw [climbS_le h]; omega
    · have hp := depS_pos (l := l) (i := i) (by omega)
      have hs := depS_step hw hp hi
      have hb := par_bounds hw hp hi
      rw [climbS_step hw hi (by omega)]
      have := climbS_bounds hw d n (parOf l i) (by omega) hb.1 (by omega)
      omega
/-- The cells of items: five each; the slices of priorities lie in none of the blocks that N names. -/
def IC (w : World) (N : Nat → Prop) : List Value → List It → Prop
  | [], [] => True
  | a :: b :: c :: d :: e :: cs, x :: xs => a = str x.nm ∧ b = .int .i64 x.par ∧ c = .int .i64 x.q ∧ d = .int .i64 x.p ∧ RI w e x.pr ∧ (∀ k, e.ownBlock = some k → ¬ N k ∧ k < w.heap.size) ∧ IC w N cs xs
  | _, _ => False
theorem IC.len {w : World} {N : Nat → Prop} : ∀ {cs : List Value} {o : List It}, IC w N cs o → cs.length = o.length * 5
  | [], [], _ => rfl
  | [], _ :: _, h => by cases h
  | [_], o, h => by cases o <;> cases h
  | [_, _], o, h => by cases o <;> cases h
  | [_, _, _], o, h => by cases o <;> cases h
  | [_, _, _, _], o, h => by cases o <;> cases h
  | _ :: _ :: _ :: _ :: _ :: _, [], h => by cases h
  | a :: b :: c :: d :: e :: cs, x :: xs, h => by have := IC.len h.2.2.2.2.2.2; simp; omega
theorem IC.snoc {w : World} {N : Nat → Prop} {u : Value} {x : It} (hu : RI w u x.pr) (hB : ∀ k, u.ownBlock = some k → ¬ N k ∧ k < w.heap.size) : ∀ {cs : List Value} {o : List It}, IC w N cs o → IC w N (cs ++ [str x.nm, .int .i64 x.par, .int .i64 x.q, .int .i64 x.p, u]) (o ++ [x])
  | [], [], _ => ⟨rfl, rfl, rfl, rfl, hu, hB, trivial⟩
  | [], _ :: _, h => by cases h
  | [_], o, h => by cases o <;> cases h
  | [_, _], o, h => by cases o <;> cases h
  | [_, _, _], o, h => by cases o <;> cases h
  | [_, _, _, _], o, h => by cases o <;> cases h
  | _ :: _ :: _ :: _ :: _ :: _, [], h => by cases h
  | a :: b :: c :: d :: e :: cs, y :: ys, h => ⟨h.1, h.2.1, h.2.2.1, h.2.2.2.1, h.2.2.2.2.1, h.2.2.2.2.2.1, IC.snoc hu hB h.2.2.2.2.2.2⟩
theorem RI.of_block {w w' : World} {v : Value} {l : List Int} (h : RI w v l) (hs : w.heap.size ≤ w'.heap.size) (e : ∀ k, v.ownBlock = some k → w'.heap[k]? = w.heap[k]?) : RI w' v l := by
  rcases h with h | ⟨b, off, cap, rfl, hb, hc⟩
  · exact .inl h
  · exact .inr ⟨b, off, cap, rfl, by omega, fun i hi => (World.cell?_of_block (w := w) (w' := w') (a := ⟨b, off + i, none⟩) (e b rfl)).trans (hc i hi)⟩
theorem IC.move {w w' : World} {N N' : Nat → Prop} (hs : w.heap.size ≤ w'.heap.size) (hblk : ∀ k, k < w.heap.size → ¬ N k → w'.heap[k]? = w.heap[k]?) (hB : ∀ k, k < w.heap.size → ¬ N k → ¬ N' k) : ∀ {cs : List Value} {o : List It}, IC w N cs o → IC w' N' cs o
  | [], [], _ => trivial
  | [], _ :: _, h => by cases h
  | [_], o, h => by cases o <;> cases h
  | [_, _], o, h => by cases o <;> cases h
  | [_, _, _], o, h => by cases o <;> cases h
  | [_, _, _, _], o, h => by cases o <;> cases h
  | _ :: _ :: _ :: _ :: _ :: _, [], h => by cases h
  | a :: b :: c :: d :: e :: cs, x :: xs, h => by
    obtain ⟨h1, h2, h3, h4, h5, h6, h7⟩ := h
    exact ⟨h1, h2, h3, h4, h5.of_block hs (fun k hk => hblk k (h6 k hk).2 (h6 k hk).1), fun k hk => ⟨hB k (h6 k hk).2 (h6 k hk).1, by have := (h6 k hk).2; omega⟩, IC.move hs hblk hB h7⟩
theorem IC.get {w : World} {N : Nat → Prop} : ∀ {cs : List Value} {o : List It} (i : Nat), IC w N cs o → i < o.length → cs[i * 5]? = some (str (o.getD i default).nm) ∧ cs[i * 5 + 1]? = some (.int .i64 (o.getD i default).par) ∧ cs[i * 5 + 2]? = some (.int .i64 (o.getD i default).q) ∧ cs[i * 5 + 3]? = some (.int .i64 (o.getD i default).p) ∧ ∃ u, cs[i * 5 + 4]? = some u ∧ RI w u (o.getD i default).pr
  | [], [], i, _, hi => by simp at hi
  | [], _ :: _, _, h, _ => by cases h
  | [_], o, _, h, _ => by cases o <;> cases h
  | [_, _], o, _, h, _ => by cases o <;> cases h
  | [_, _, _], o, _, h, _ => by cases o <;> cases h
  | [_, _, _, _], o, _, h, _ => by cases o <;> cases h
  | _ :: _ :: _ :: _ :: _ :: _, [], _, h, _ => by cases h
  | a :: b :: c :: d :: e :: cs, x :: xs, 0, h, _ => ⟨by simp [h.1], by simp [h.2.1], by simp [h.2.2.1], by simp [h.2.2.2.1], e, by simp, h.2.2.2.2.1⟩
  | a :: b :: c :: d :: e :: cs, x :: xs, i + 1, h, hi => by
    obtain ⟨h1, h2, h3, h4, u, h5, h6⟩ := IC.get i h.2.2.2.2.2.2 (by simpa using hi)
    refine ⟨?_, ?_, ?_, ?_, u, ?_, by simpa using h6⟩
    · rw [show (i + 1) * 5 = i * 5 + 1 + 1 + 1 + 1 + 1 by omega]; simpa using h1
    · rw [show (i + 1) * 5 + 1 = i * 5 + 1 + 1 + 1 + 1 + 1 + 1 by omega]; simpa using h2
    · rw [show (i + 1) * 5 + 2 = i * 5 + 2 + 1 + 1 + 1 + 1 + 1 by omega]; simpa using h3
    · rw [show (i + 1) * 5 + 3 = i * 5 + 3 + 1 + 1 + 1 + 1 + 1 by omega]; simpa using h4
    · rw [show (i + 1) * 5 + 4 = i * 5 + 4 + 1 + 1 + 1 + 1 + 1 by omega]; simpa using h5
/-- A row of items of the call's own reads as what it holds. -/
theorem RT_own {w : World} {B : Nat} {e : TypeId} {v : Value} {n : Nat} {N : Nat → Prop} {cs : List Value} {L : List It} (h : w.ownsRow B e 5 v n cs) (hl : IC w N cs L) : RT w v L ∧ n = L.length := by
  have hcl := hl.len
  obtain ⟨h1, h2⟩ := h
  have hn : n = L.length := by omega
  subst hn
  refine ⟨?_, rfl⟩
  rcases h2 with ⟨rfl, h0⟩ | ⟨g, cap, cur, rfl, hg, hh, hnc, hc, hs, ht⟩
  · rw [List.eq_nil_of_length_eq_zero h0]; exact RT_nil w
  · refine ⟨_, cap, rfl, by omega, by omega, fun i hi => ⟨g, 0, rfl, (Array.getElem?_eq_some_iff.1 hh).1, ?_⟩⟩
    obtain ⟨g1, g2, g3, g4, u, g5, g6⟩ := hl.get i hi
    have at_ : ∀ j v, j < L.length * 5 → cs[j]? = some v → w.cell? ⟨g, 0 + j, none⟩ = some v := by
      intro j v hj hv
      have e1 : cur.toList[j]? = cs[j]? := by rw [← ht, List.getElem?_take, if_pos hj]
      simp only [World.cell?, hh, Nat.zero_add]
      rw [hv] at e1
      simpa using e1
    exact ⟨at_ _ _ (by omega) g1, at_ _ _ (by omega) g2, at_ _ _ (by omega) g3, at_ _ _ (by omega) g4, u, at_ _ _ (by omega) g5, g6⟩
end Go.Proofs.YtophilmjfdhhaaaGreatDoor
