/- Slices of lines, as they lie in memory; lex.Lines. -/
import Derived.Test.YtdcnlgjngfmbcaaDoorLx
import Derived.Test.YtdcnlgjngfmbcaaDoorLq
namespace Go.Proofs.YtdcnlgjngfmbcaaDoor
open Go Go.RowKit Go.Shelf
set_option linter.unusedVariables false
set_option maxRecDepth 100000
set_option maxHeartbeats 1600000

/-- The cells of lines: a number and a slice of strings each; the slices lie in none of the blocks that S names. -/
def LC (w : World) (B : Option Nat) : List Value → List LnS → Prop
  | [], [] => True
  | a :: b :: cs, x :: xs => a = .int .i64 x.1 ∧ RS w b x.2 ∧ (∀ k, b.ownBlock = some k → B ≠ some k ∧ k < w.heap.size) ∧ LC w B cs xs
  | _, _ => False
theorem LC.len {w : World} {B : Option Nat} : ∀ {cs : List Value} {o : List LnS}, LC w B cs o → cs.length = o.length * 2
  | [], [], _ => rfl
  | [], _ :: _, h => by cases h
  | [_], _, h => by cases ‹List LnS› <;> cases h
  | _ :: _ :: _, [], h => by cases h
  | a :: b :: cs, x :: xs, h => by have := LC.len h.2.2.2; simp; omega
theorem LC.snoc {w : World} {B : Option Nat} {u : Value} {no : Nat} {ws : List (List UInt8)} (hu : RS w u ws) (hB : ∀ k, u.ownBlock = some k → B ≠ some k ∧ k < w.heap.size) : ∀ {cs : List Value} {o : List LnS}, LC w B cs o → LC w B (cs ++ [.int .i64 no, u]) (o ++ [(no, ws)])
  | [], [], _ => ⟨rfl, hu, hB, trivial⟩
  | [], _ :: _, h => by cases h
  | [_], _, h => by cases ‹List LnS› <;> cases h
  | _ :: _ :: _, [], h => by cases h
  | a :: b :: cs, x :: xs, h => ⟨h.1, h.2.1, h.2.2.1, LC.snoc hu hB h.2.2.2⟩
theorem LC.move {w w' : World} {B B' : Option Nat} (hs : w.heap.size ≤ w'.heap.size) (hblk : ∀ k, k < w.heap.size → B ≠ some k → w'.heap[k]? = w.heap[k]?) (hB : ∀ k, k < w.heap.size → B ≠ some k → B' ≠ some k) : ∀ {cs : List Value} {o : List LnS}, LC w B cs o → LC w' B' cs o
  | [], [], _ => trivial
  | [], _ :: _, h => by cases h
  | [_], _, h => by cases ‹List LnS› <;> cases h
  | _ :: _ :: _, [], h => by cases h
  | a :: b :: cs, x :: xs, h => ⟨h.1, h.2.1.of_block hs (fun k hk _ => hblk k (h.2.2.1 k hk).2 (h.2.2.1 k hk).1), fun k hk => ⟨hB k (h.2.2.1 k hk).2 (h.2.2.1 k hk).1, by have := (h.2.2.1 k hk).2; omega⟩, LC.move hs hblk hB h.2.2.2⟩
theorem LC.get {w : World} {B : Option Nat} : ∀ {cs : List Value} {o : List LnS} (i : Nat), LC w B cs o → i < o.length → ∃ u, cs[i * 2]? = some (.int .i64 (o.getD i default).1) ∧ cs[i * 2 + 1]? = some u ∧ RS w u (o.getD i default).2
  | [], [], i, _, hi => by simp at hi
  | [], _ :: _, _, h, _ => by cases h
  | [_], o, _, h, _ => by cases o <;> cases h
  | _ :: _ :: _, [], _, h, _ => by cases h
  | a :: b :: cs, x :: xs, 0, h, _ => ⟨b, by simp [h.1], by simp, h.2.1⟩
  | a :: b :: cs, x :: xs, i + 1, h, hi => by
    obtain ⟨u, h1, h2, h3⟩ := LC.get i h.2.2.2 (by simpa using hi)
    refine ⟨u, ?_, ?_, by simpa using h3⟩
    · rw [show (i + 1) * 2 = i * 2 + 1 + 1 by omega]; simpa using h1
    · rw [show (i + 1) * 2 + 1 = i * 2 + 1 + 1 + 1 by omega]; simpa using h2
/-- A slice of lines. -/
def RL (w : World) (v : Value) (L : List LnS) : Prop :=
  ∃ p c, v = .slice p L.length c ∧ ∀ i, i < L.length → ∃ b o u, p = some ⟨b, o, none⟩ ∧ b < w.heap.size ∧ w.cell? ⟨b, o + i * 2, none⟩ = some (.int .i64 (L.getD i default).1) ∧ w.cell? ⟨b, o + i * 2 + 1, none⟩ = some u ∧ RS w u (L.getD i default).2
theorem RL_nil (w : World) : RL w (.slice none 0 0) [] := ⟨none, 0, rfl, fun i hi => by simp at hi⟩
theorem RL.below {w w' : World} {v : Value} {L : List LnS} (h : RL w v L) (hb : Below w.heap.size w w') : RL w' v L := by
  obtain ⟨p, c, hv, hr⟩ := h
  refine ⟨p, c, hv, fun i hi => ?_⟩
  obtain ⟨b, o, u, hp, hlt, h1, h2, h3⟩ := hr i hi
  exact ⟨b, o, u, hp, Nat.lt_of_lt_of_le hlt hb.size, (hb.cell (p := ⟨b, o + i * 2, none⟩) hlt).trans h1, (hb.cell (p := ⟨b, o + i * 2 + 1, none⟩) hlt).trans h2, h3.below hb⟩
theorem RL_own {w : World} {B : Nat} {e : TypeId} {v : Value} {n : Nat} {S : Option Nat} {cs : List Value} {L : List LnS} (h : w.ownsRow B e 2 v n cs) (hl : LC w S cs L) : RL w v L ∧ n = L.length := by
  have hcl := hl.len
  obtain ⟨h1, h2⟩ := h
  have hn : n = L.length := by omega
  subst hn
  refine ⟨?_, rfl⟩
  rcases h2 with ⟨rfl, h0⟩ | ⟨g, cap, cur, rfl, hg, hh, hnc, hc, hs, ht⟩
  · rw [List.eq_nil_of_length_eq_zero h0]; exact RL_nil w
  · refine ⟨_, cap, rfl, fun i hi => ?_⟩
    obtain ⟨u, g1, g2, g3⟩ := hl.get i hi
    have at_ : ∀ j v, j < L.length * 2 → cs[j]? = some v → w.cell? ⟨g, 0 + j, none⟩ = some v := by
      intro j v hj hv
      have e1 : cur.toList[j]? = cs[j]? := by rw [← ht, List.getElem?_take, if_pos hj]
      simp only [World.cell?, hh, Nat.zero_add]
      rw [hv] at e1
      simpa using e1
    exact ⟨g, 0, u, rfl, (Array.getElem?_eq_some_iff.1 hh).1, at_ _ _ (by omega) g1, by have := at_ _ _ (by omega) g2; rwa [← Nat.add_assoc] at this, g3⟩

theorem Tryd.infoLine : (Tryd.prog.info? 49).map (fun i => (i.zero, i.size, i.bytes)) = some (some (.agg #[.int .i64 0, .slice none 0 0]), 2, 32) := by kernel_rfl
theorem Tryd.infoRLine : (Tryd.prog.info? 69).map (fun i => (i.zero, i.size, i.bytes)) = some (some (.agg #[.int .i64 0, .slice none 0 0]), 2, 32) := by kernel_rfl
/-- An Errno as an error. -/
abbrev errN (n : Int) : Value := .iface 63 (.int .i64 n)
def errOf (n : Int) : Value := if n = 0 then .nilIface else errN n
theorem cut_c (s sep : ByteArray) (W : World) (E : Env W) (hs : s.size < 4294967281) :
    Calls Tryd.prog 28 #[.string s, .string sep] W fun e w' => e = .returned (.tuple #[.string ⟨(Lib.cut s.data.toList sep.data.toList).1.toArray⟩, .string ⟨(Lib.cut s.data.toList sep.data.toList).2.1.toArray⟩, .bool (Lib.cut s.data.toList sep.data.toList).2.2]) ∧ Below W.heap.size W w' := by
  obtain ⟨m, hm⟩ := E.maxlen
  refine (Tryd.strings_Cut s sep m W hs hm).mono ?_
  rintro e w' ⟨he, n, rfl⟩
  exact ⟨he, ⟨rfl, rfl, rfl, Nat.le_refl _, fun _ _ => rfl⟩⟩
theorem cut1_c (l : List UInt8) (c : UInt8) (W : World) (E : Env W) (hs : l.length < 4294967281) :
    Calls Tryd.prog 28 #[str l, .string ⟨#[c]⟩] W fun e w' => e = .returned (.tuple #[str (cutAt c l).1, str ((cutAt c l).2.getD []), .bool (cutAt c l).2.isSome]) ∧ Below W.heap.size W w' := by
  have := cut_c ⟨l.toArray⟩ ⟨#[c]⟩ W E (by rw [sz]; exact hs)
  simp only [cut_cutAt] at this
  exact this
theorem trim_c (l : List UInt8) (W : World) (hs : l.length ≤ 9223372036854775807) :
    Calls Tryd.prog 30 #[str l, .string ⟨#[13]⟩] W fun e w' => e = .returned (str (trimCR l)) ∧ W = w' := by
  have := Tryd.strings_TrimSuffix ⟨l.toArray⟩ ⟨#[13]⟩ W (by rw [sz]; exact hs)
  simp only [trimCR_suffix] at this
  exact this.mono fun _ _ ⟨a, b⟩ => ⟨a, b.symm⟩

theorem lines_long (l : List UInt8) (W : World) (h : 1048576 < l.length) (hl : l.length ≤ 140737488355328) :
    Calls Tryd.prog 9 #[str l] W fun e w' => e = .returned (.tuple #[.slice none 0 0, .int .i64 0, errN 3]) ∧ W = w' := by
  have h1 : (1048576 : Int) < ((⟨l.toArray⟩ : ByteArray).size : Int) := by rw [sz]; omega
  go_enter Tryd.func9, Tryd.ntmps9
  go_wp2_with fail
  go_ret3
  exact ⟨rfl, rfl⟩
end Go.Proofs.YtdcnlgjngfmbcaaDoor
