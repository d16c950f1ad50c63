/- Pack and Unpack, of the program and of the reference, each for every input; an error's number. -/
import Derived.Test.YtpnjedcijbpngaaDoorHu
namespace Go.Proofs.YtpnjedcijbpngaaDoor
open Go Go.RowKit Go.Shelf Go.Sort
set_option linter.unusedVariables false

theorem num_any (n : Int) (w : World) : Calls Tryd.prog 11 #[errOf n] w fun e w' => e = .returned (.int .i64 n) ∧ w = w' := by
  by_cases h : n = 0
  · subst h; exact num_nil w
  · have e : errOf n = errN n := if_neg h
    rw [e]; exact num_err n w

def pkA (l : List Int) : ByteArray × Int := if 4096 < l.length then (⟨#[]⟩, 3) else packR l
theorem pack_any (l : List Int) (v : Value) (W : World) (hv : RI W v l) :
    Calls Tryd.prog 27 #[v] W fun e w' => e = .returned (.tuple #[.string (pkA l).1, errOf (pkA l).2]) ∧ Below W.heap.size W w' := by
  by_cases h : 4096 < l.length
  · have e : pkA l = (⟨#[]⟩, 3) := if_pos h
    rw [e]; exact pack_long l v W hv h
  · have e : pkA l = packR l := if_neg h
    rw [e]; exact pack_s l v W hv (by omega)
theorem rpack_any (l : List Int) (v : Value) (W : World) (hv : RI W v l) :
    Calls Tryd.prog 28 #[v] W fun e w' => e = .returned (.tuple #[.string (pkA l).1, .int .i64 (pkA l).2]) ∧ Below W.heap.size W w' := by
  by_cases h : 4096 < l.length
  · have e : pkA l = (⟨#[]⟩, 3) := if_pos h
    rw [e]; exact rpack_long l v W hv h
  · have e : pkA l = packR l := if_neg h
    rw [e]; exact rpack_s l v W hv (by omega)

def unA (l : List UInt8) : List Int × Int := if 24576 < l.length then ([], 3) else if l.length % 6 ≠ 0 then ([], 4) else unR l (l.length / 6)
theorem unA_length (l : List UInt8) : (unA l).1.length ≤ 4096 := by
  unfold unA
  split
  · simp
  · split
    · simp
    · unfold unR
      split
      · simp [unI]; omega
      · simp
theorem unpack_any (s : ByteArray) (W : World) :
    Calls Tryd.prog 29 #[.string s] W fun e w' => (∃ v, e = .returned (.tuple #[v, errOf (unA s.data.toList).2]) ∧ RI w' v (unA s.data.toList).1) ∧ Below W.heap.size W w' := by
  have hl := size_list s
  by_cases h1 : 24576 < s.size
  · have e : unA s.data.toList = ([], 3) := if_pos (by omega)
    rw [e]
    exact (unpack_s_long s W h1).mono fun _ _ ⟨he, hb⟩ => ⟨⟨_, he, RI_nil _⟩, hb⟩
  · by_cases h2 : s.size % 6 = 0
    · have e : unA s.data.toList = unR s.data.toList (s.size / 6) := by unfold unA; rw [if_neg (by omega), if_neg (by omega), hl]
      rw [e]
      exact (unpack_s s (s.size / 6) W (by omega) (by omega)).mono fun _ _ ⟨v, he, hr, hb⟩ => ⟨⟨v, he, hr⟩, hb⟩
    · have e : unA s.data.toList = ([], 4) := by unfold unA; rw [if_neg (by omega), if_pos (by omega)]
      rw [e]
      exact (unpack_s_form s W (by omega) h2).mono fun _ _ ⟨he, hb⟩ => ⟨⟨_, he, RI_nil _⟩, hb⟩
theorem runpack_any (s : ByteArray) (W : World) :
    Calls Tryd.prog 30 #[.string s] W fun e w' => (∃ v, e = .returned (.tuple #[v, .int .i64 (unA s.data.toList).2]) ∧ RI w' v (unA s.data.toList).1) ∧ Below W.heap.size W w' := by
  have hl := size_list s
  by_cases h1 : 24576 < s.size
  · have e : unA s.data.toList = ([], 3) := if_pos (by omega)
    rw [e]
    exact (runpack_s_long s W h1).mono fun _ _ ⟨he, hb⟩ => ⟨⟨_, he, RI_nil _⟩, hb⟩
  · by_cases h2 : s.size % 6 = 0
    · have e : unA s.data.toList = unR s.data.toList (s.size / 6) := by unfold unA; rw [if_neg (by omega), if_neg (by omega), hl]
      rw [e]
      exact (runpack_s s (s.size / 6) W (by omega) (by omega)).mono fun _ _ ⟨v, he, hr, hb⟩ => ⟨⟨v, he, hr⟩, hb⟩
    · have e : unA s.data.toList = ([], 4) := by unfold unA; rw [if_neg (by omega), if_pos (by omega)]
      rw [e]
      exact (runpack_s_form s W (by omega) h2).mono fun _ _ ⟨he, hb⟩ => ⟨⟨_, he, RI_nil _⟩, hb⟩
end Go.Proofs.YtpnjedcijbpngaaDoor
