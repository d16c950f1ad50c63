/- Read of package handle: the handle of every text, or the error. -/
import Derived.Test.YtohodbpjcbjifaaGreatDoorHc
import Derived.Lib.IndexBytes
namespace Go.Proofs.YtohodbpjcbjifaaGreatDoor
open Go Go.RowKit Go.Shelf Go.Sort
set_option maxHeartbeats 400000
set_option linter.unusedVariables false
set_option maxRecDepth 100000

/-- What Read makes of a text behind its first tests: the kind of the first letter, the numbers before and behind the first point. -/
def rdK (l : List UInt8) : Int := Lib.indexByte [110, 116, 115] (l.headD 0) + 1
def rdA (l : List UInt8) : Int := atoiV (Lib.cut (l.drop 1) [46]).1
def rdB (l : List UInt8) : Int := atoiV (Lib.cut (l.drop 1) [46]).2.1
def hMk (k s g : Int) : Int := k * 1099511627776 + s * 1048576 + g

/-- The handle, and the error's number. -/
def hRead (l : List UInt8) : Int × Int :=
  if 32 < l.length then (0, 3) else if l = [45] then (0, 0) else if l = [] then (0, 4)
  else if HOk (rdK l) (rdA l) (rdB l) ∧ hText (hMk (rdK l) (rdA l) (rdB l)) = l then (hMk (rdK l) (rdA l) (rdB l), 0) else (0, 4)

def errOf (n : Int) : Value := if n = 0 then .nilIface else errN n

theorem cut_c (s sep : ByteArray) (W : World) (E : Env W) (hs : s.size < 4294967281) :
    Calls Tryz.prog 44 #[.string s, .string sep] W fun e w' => e = .returned (.tuple #[.string ⟨(Lib.cut s.data.toList sep.data.toList).1.toArray⟩, .string ⟨(Lib.cut s.data.toList sep.data.toList).2.1.toArray⟩, .bool (Lib.cut s.data.toList sep.data.toList).2.2]) ∧ Below W.heap.size W w' := by
  obtain ⟨m, hm⟩ := E.maxlen
  refine (Tryz.strings_Cut s sep m W hs hm).mono ?_
  rintro e w' ⟨he, n, rfl⟩
  exact ⟨he, below_drewN (Below.refl _ _) n⟩

/-- Read behind its first tests, by what its callees hand back. -/
def genR (k a b : Int) (l : List UInt8) : Int × Int := if HOk k a b ∧ hText (hMk k a b) = l then (hMk k a b, 0) else (0, 4)

theorem read_gen (s : ByteArray) (W : World) (E : Env W) (hs : s.size ≤ 32) (h0 : 0 < s.size) (hd : (s.toList == [45]) = false) (he : s.toList.isEmpty = false)
    (k a b : Int) (x y : ByteArray) (t : Bool)
    (C1 : ∀ W, Calls Tryz.prog 43 #[.string ⟨#[110, 116, 115]⟩, .int .u8 s[0].toNat] W fun e w' => e = .returned (.int .i64 (k - 1)) ∧ W = w')
    (C2 : ∀ W, Env W → Calls Tryz.prog 44 #[.string (s.extract 1 s.size), .string ⟨#[46]⟩] W fun e w' => e = .returned (.tuple #[.string x, .string y, .bool t]) ∧ Below W.heap.size W w')
    (C3 : ∀ W, Env W → Calls Tryz.prog 21 #[.string x] W fun e w' => (∃ ev, e = .returned (.tuple #[.int .i64 a, ev])) ∧ Below W.heap.size W w')
    (C4 : ∀ W, Env W → Calls Tryz.prog 21 #[.string y] W fun e w' => (∃ ev, e = .returned (.tuple #[.int .i64 b, ev])) ∧ Below W.heap.size W w')
    (hk : 0 ≤ k) (hk3 : k ≤ 3) :
    Calls Tryz.prog 22 #[.string s] W fun e w' => e = .returned (.tuple #[.int .i64 (genR k a b s.data.toList).1, errOf (genR k a b s.data.toList).2]) ∧ Below W.heap.size W w' := by
  have D1 := Lib.hid C1; clear C1
  have D2 := Lib.hid C2; clear C2
  have D3 := Lib.hid C3; clear C3
  have D4 := Lib.hid C4; clear C4
  have EE := Lib.hid E; clear E
  by_cases o : HOk k a b
  · have M := fun W => make_ok k a b W o
    have MM := Lib.hid M; clear M
    by_cases q : hText (hMk k a b) = s.data.toList
    · have R : genR k a b s.data.toList = (hMk k a b, 0) := if_pos ⟨o, q⟩
      have Q : (hText (k * 1099511627776 + a * 1048576 + b) == s.toList) = true := by unfold hMk at q; rw [q, Lib.toList_data]; simp
      rw [R]
      have OO := Lib.hid o; clear o
      clear R q
      go_enter Tryz.func22, Tryz.ntmps22
      go_wp2_with (first | (go_at_call 43; refine (D1.out _).mono ?_; rintro e w' ⟨rfl, rfl⟩) | (go_at_call 44; refine (D2.out _ EE.out).mono ?_; rintro e w2 ⟨rfl, hb2⟩))
      have E2 := EE.out.below hb2
      refine (D3.out _ E2).mono ?_
      rintro e w3 ⟨⟨ev3, rfl⟩, hb3⟩
      have E3 := E2.below hb3
      go_wp2_with fail
      refine (D4.out _ E3).mono ?_
      rintro e w4 ⟨⟨ev4, rfl⟩, hb4⟩
      have E4 := E3.below hb4
      have hb := below_chain3 hb2 hb3 hb4
      go_wp2_with (first | (go_at_call 45; refine (MM.out _).mono ?_; rintro e w' ⟨rfl, rfl⟩) | (go_at_call 16; refine (text_any _ E4).mono ?_; rintro e w5 ⟨rfl, hb5⟩))
      go_ret2
      exact ⟨rfl, below_then hb hb5⟩
    · have R : genR k a b s.data.toList = (0, 4) := if_neg (fun h => q h.2)
      have Q : (hText (k * 1099511627776 + a * 1048576 + b) == s.toList) = false := by unfold hMk at q; rw [Lib.toList_data]; simpa using q
      rw [R]
      have OO := Lib.hid o; clear o
      clear R q
      go_enter Tryz.func22, Tryz.ntmps22
      go_wp2_with (first | (go_at_call 43; refine (D1.out _).mono ?_; rintro e w' ⟨rfl, rfl⟩) | (go_at_call 44; refine (D2.out _ EE.out).mono ?_; rintro e w2 ⟨rfl, hb2⟩))
      have E2 := EE.out.below hb2
      refine (D3.out _ E2).mono ?_
      rintro e w3 ⟨⟨ev3, rfl⟩, hb3⟩
      have E3 := E2.below hb3
      go_wp2_with fail
      refine (D4.out _ E3).mono ?_
      rintro e w4 ⟨⟨ev4, rfl⟩, hb4⟩
      have E4 := E3.below hb4
      have hb := below_chain3 hb2 hb3 hb4
      go_wp2_with (first | (go_at_call 45; refine (MM.out _).mono ?_; rintro e w' ⟨rfl, rfl⟩) | (go_at_call 16; refine (text_any _ E4).mono ?_; rintro e w5 ⟨rfl, hb5⟩))
      go_ret2
      exact ⟨rfl, below_then hb hb5⟩
  · have M := fun W => make_bad k a b W o
    have MM := Lib.hid M; clear M
    have R : genR k a b s.data.toList = (0, 4) := if_neg (fun h => o h.1)
    rw [R]
    clear R o
    · skip
      go_enter Tryz.func22, Tryz.ntmps22
      go_wp2_with (first | (go_at_call 43; refine (D1.out _).mono ?_; rintro e w' ⟨rfl, rfl⟩) | (go_at_call 44; refine (D2.out _ EE.out).mono ?_; rintro e w2 ⟨rfl, hb2⟩))
      have E2 := EE.out.below hb2
      refine (D3.out _ E2).mono ?_
      rintro e w3 ⟨⟨ev3, rfl⟩, hb3⟩
      have E3 := E2.below hb3
      go_wp2_with fail
      refine (D4.out _ E3).mono ?_
      rintro e w4 ⟨⟨ev4, rfl⟩, hb4⟩
      have E4 := E3.below hb4
      have hb := below_chain3 hb2 hb3 hb4
      go_wp2_with (first | (go_at_call 45; refine (MM.out _).mono ?_; rintro e w' ⟨rfl, rfl⟩) | (go_at_call 16; refine (text_any _ E4).mono ?_; rintro e w5 ⟨rfl, hb5⟩))
      go_ret2
      exact ⟨rfl, hb⟩
theorem indexByte_le (l : List UInt8) (c : UInt8) : -1 ≤ Lib.indexByte l c ∧ Lib.indexByte l c < l.length := by
  induction l with
  | nil => exact ⟨by simp [Lib.indexByte], by simp [Lib.indexByte]⟩
  | cons b r ih =>
    unfold Lib.indexByte
    split
    · exact ⟨by decide, by simp⟩
    · split
      · exact ⟨by decide, by simp; omega⟩
      · simp only [List.length_cons]; omega

theorem cut_lengths (l m : List UInt8) : (Lib.cut l m).1.length ≤ l.length ∧ (Lib.cut l m).2.1.length ≤ l.length := by
  unfold Lib.cut
  split <;> simp <;> omega

theorem read_any (s : ByteArray) (W : World) (E : Env W) :
    Calls Tryz.prog 22 #[.string s] W fun e w' => e = .returned (.tuple #[.int .i64 (hRead s.data.toList).1, errOf (hRead s.data.toList).2]) ∧ Below W.heap.size W w' := by
  have hl : s.data.toList.length = s.size := by rw [← Lib.size_eq]
  by_cases h1 : 32 < s.size
  · have R : hRead s.data.toList = (0, 3) := by unfold hRead; rw [if_pos (by omega)]
    rw [R]
    clear R E hl
    go_enter Tryz.func22, Tryz.ntmps22
    go_wp2_with fail
    go_ret2
    exact ⟨rfl, Below.refl _ _⟩
  · by_cases h2 : s.data.toList = [45]
    · have R : hRead s.data.toList = (0, 0) := by unfold hRead; rw [if_neg (by omega), if_pos h2]
      have Q : (s.toList == [45]) = true := by rw [Lib.toList_data, h2]; rfl
      rw [R]
      clear R E hl h2
      go_enter Tryz.func22, Tryz.ntmps22
      go_wp2_with fail
      go_ret2
      exact ⟨rfl, Below.refl _ _⟩
    · have Q : (s.toList == [45]) = false := by rw [Lib.toList_data]; simpa using h2
      by_cases h3 : s.data.toList = []
      · have R : hRead s.data.toList = (0, 4) := by unfold hRead; rw [if_neg (by omega), if_neg h2, if_pos h3]
        have Q2 : s.toList.isEmpty = true := by rw [Lib.toList_data, h3]; rfl
        rw [R]
        clear R E hl h2 h3
        go_enter Tryz.func22, Tryz.ntmps22
        go_wp2_with fail
        go_ret2
        exact ⟨rfl, Below.refl _ _⟩
      · have Q2 : s.toList.isEmpty = false := by rw [Lib.toList_data]; simpa using h3
        have h0 : 0 < s.size := by
          rcases Nat.eq_zero_or_pos s.size with z | z
          · exact absurd (List.eq_nil_of_length_eq_zero (by omega)) h3
          · exact z
        have R : hRead s.data.toList = genR (rdK s.data.toList) (rdA s.data.toList) (rdB s.data.toList) s.data.toList := by unfold hRead genR; rw [if_neg (by omega), if_neg h2, if_neg h3]
        rw [R]
        have e1 : (s.extract 1 s.size).data.toList = s.data.toList.drop 1 := Lib.extract_to_end s 1
        have es : (s.extract 1 s.size).size ≤ 32 := by rw [Lib.size_eq, e1, List.length_drop]; omega
        have ek := indexByte_le [110, 116, 115] (s.data.toList.headD 0)
        have eh : s[0] = s.data.toList.headD 0 := by
          obtain ⟨⟨l⟩⟩ := s
          cases l with
          | nil => exact absurd rfl h3
          | cons c r => rfl
        have cl := cut_lengths (s.data.toList.drop 1) [46]
        rw [List.length_drop] at cl
        refine read_gen s W E (by omega) h0 Q Q2 (rdK s.data.toList) (rdA s.data.toList) (rdB s.data.toList) ⟨(Lib.cut (s.data.toList.drop 1) [46]).1.toArray⟩ ⟨(Lib.cut (s.data.toList.drop 1) [46]).2.1.toArray⟩ (Lib.cut (s.data.toList.drop 1) [46]).2.2 ?_ ?_ ?_ ?_ ?_ ?_
        · intro W
          refine (Tryz.strings_IndexByte _ _ W).mono ?_
          rintro e w' ⟨rfl, rfl⟩
          refine ⟨?_, rfl⟩
          unfold rdK
          rw [← eh]
          simp
        · intro W E
          have := cut_c (s.extract 1 s.size) ⟨#[46]⟩ W E (by omega)
          rw [e1] at this
          exact this
        · intro W E
          exact atoi_c _ (by rw [sz_list]; omega) W E
        · intro W E
          exact atoi_c _ (by rw [sz_list]; omega) W E
        · unfold rdK; omega
        · unfold rdK; have : (([110, 116, 115] : List UInt8).length : Int) = 3 := rfl; omega
end Go.Proofs.YtohodbpjcbjifaaGreatDoor
