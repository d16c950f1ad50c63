/- strings.Split at a blank: the pieces. -/
import Derived.Test.YtohodbpjcbjifaaGreatDoorSa
import Derived.Test.YtohodbpjcbjifaaGreatDoorEnv
import Derived.Test.YtohodbpjcbjifaaGreatDoorBa
import Derived.Lib.SplitLaws
import Derived.Lib.CountLaws
namespace Go.Proofs.YtohodbpjcbjifaaGreatDoor
open Go Go.RowKit Go.Shelf
set_option linter.unusedVariables false
set_option linter.unusedSimpArgs false
set_option maxRecDepth 100000
set_option maxHeartbeats 1600000

theorem nil_of_size0 {s : ByteArray} (h : s.size = 0) : s = ⟨#[]⟩ := by
  obtain ⟨⟨l⟩⟩ := s
  have : l.length = 0 := h
  rw [List.eq_nil_of_length_eq_zero this]
theorem split_c (c : UInt8) : ∀ (n : Nat) (s : ByteArray), s.size ≤ n → (Lib.splitB ⟨#[c]⟩ 0 (Lib.countB s ⟨#[c]⟩) s).map (fun x => x.data.toList) = splitC c [] s.data.toList := by
  intro n
  induction n with
  | zero =>
    intro s hs
    have : s = ⟨#[]⟩ := nil_of_size0 (by omega)
    subst this
    have h : Lib.indexB ⟨#[]⟩ ⟨#[c]⟩ = -1 := by
      rcases Lib.indexB_cases ⟨#[]⟩ ⟨#[c]⟩ with h | ⟨i, _, hi⟩
      · exact h
      · have : (⟨#[c]⟩ : ByteArray).size = 1 := rfl
        have h0 : (⟨#[]⟩ : ByteArray).size = 0 := rfl
        omega
    rw [Lib.countB_miss _ _ h]
    rfl
  | succ n ih =>
    intro s hs
    have hz : (⟨#[c]⟩ : ByteArray).size = 1 := rfl
    have hc := cut_cutAt c s.data.toList
    rw [splitC_cut]
    rcases Lib.indexB_cases s ⟨#[c]⟩ with h | ⟨i, h, hroom⟩
    · have h' : Lib.index s.data.toList [c] = -1 := h
      rw [Lib.countB_miss _ _ h]
      unfold Lib.cut at hc
      rw [if_neg (by rw [h']; decide)] at hc
      simp only [Prod.mk.injEq] at hc
      have : (cutAt c s.data.toList).2 = none := by
        cases e : (cutAt c s.data.toList).2 with
        | none => rfl
        | some r => rw [e] at hc; simp at hc
      rw [this]
      simp [Lib.splitB_zero, ← hc.1]
    · have h' : Lib.index s.data.toList [c] = (i : Int) := h
      rw [Lib.countB_hit s _ i (by rw [hz]; exact Nat.le_refl _) h, Nat.add_comm, Lib.splitB_hit _ _ _ _ i h]
      unfold Lib.cut at hc
      rw [if_pos (by rw [h']; omega), h'] at hc
      simp only [Prod.mk.injEq, Int.toNat_natCast] at hc
      cases e : (cutAt c s.data.toList).2 with
      | none => rw [e] at hc; simp at hc
      | some r =>
        rw [e] at hc
        simp only [Option.getD_some] at hc
        have hsz : (s.extract (i + (⟨#[c]⟩ : ByteArray).size) s.size).size ≤ n := by rw [ByteArray.size_extract]; omega
        have := ih _ hsz
        simp only [List.map_cons]
        rw [this]
        congr 1
        · rw [extract_list]; simp [← hc.1]
        · rw [extract_list, hz, ← hc.2.1]
          congr 1
          rw [List.take_of_length_le]
          · rfl
          · simp
theorem ssplit_s (s : ByteArray) (W : World) (E : Env W) (hs : s.size < 4294967281) :
    Calls Tryz.prog 20 #[.string s, .string ⟨#[32]⟩] W fun e w' => ∃ v, e = .returned v ∧ RS w' v (splitC 32 [] s.data.toList) ∧ Below W.heap.size W w' := by
  obtain ⟨m, hm⟩ := E.maxlen
  refine (Tryz.strings_Split s ⟨#[32]⟩ m W hs hm (by decide)).mono ?_
  rintro e w' ⟨rfl, rfl⟩
  have hsp := split_c 32 s.size s (Nat.le_refl _)
  have hlen := Lib.splitB_all ⟨#[32]⟩ (by decide) 0 _ s rfl
  have hl : (splitC 32 [] s.data.toList).length = Lib.countB s ⟨#[32]⟩ + 1 := by rw [← hsp, List.length_map, hlen]
  have hcs : ((Lib.splitB ⟨#[32]⟩ 0 (Lib.countB s ⟨#[32]⟩) s).map Value.string) = (splitC 32 [] s.data.toList).map str := by
    rw [← hsp, List.map_map]
    rfl
  rw [hcs]
  refine ⟨_, rfl, .inr ⟨W.heap.size, 0, Lib.countB s ⟨#[32]⟩ + 1, by simp [hl], by simp [hl], by simp, fun i hi => ?_⟩, (Below.refl _ _).alloc (Nat.le_refl _) _⟩
  have hi' : i < (splitC 32 [] s.data.toList).length := by simpa using hi
  rw [Nat.zero_add]
  exact cell_new1 W _ _ i _ (by simp [List.getD, hi'])
end Go.Proofs.YtohodbpjcbjifaaGreatDoor
