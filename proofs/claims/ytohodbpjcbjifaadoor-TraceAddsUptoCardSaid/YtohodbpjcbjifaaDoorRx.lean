/- trace.Add and titheref19.Add at every row, side by side. -/
import Derived.Test.YtohodbpjcbjifaaDoorRw
import Derived.Test.YtohodbpjcbjifaaDoorEa
namespace Go.Proofs.YtohodbpjcbjifaaDoor
open Go Go.RowKit Go.ChangeShapes Go.WideShapes
set_option linter.unusedVariables false
set_option maxRecDepth 100000
set_option maxHeartbeats 800000

/-- What Add makes of a row: how many went, what is kept, the last tick, the error's number. -/
structure Out where
  gone : Int
  l : List Mk
  last : Int
  n : Int
open Classical in
noncomputable def specAdd (keep : Nat) (gone last : Int) (l ms : List Mk) : Out :=
  if okRow last ms then ⟨(addAll keep (gone, l) ms).1, (addAll keep (gone, l) ms).2, lastOf last ms ms.length, 0⟩ else ⟨gone, l, last, 1⟩
theorem spec_ok {keep : Nat} {gone last : Int} {l ms : List Mk} (h : okRow last ms) : specAdd keep gone last l ms = ⟨(addAll keep (gone, l) ms).1, (addAll keep (gone, l) ms).2, lastOf last ms ms.length, 0⟩ := by unfold specAdd; rw [if_pos h]
theorem spec_bad {keep : Nat} {gone last : Int} {l ms : List Mk} (h : ¬ okRow last ms) : specAdd keep gone last l ms = ⟨gone, l, last, 1⟩ := by unfold specAdd; rw [if_neg h]
/-- An error by its number. -/
def errV (n : Int) : Value := if n = 0 then .nilIface else errN n
theorem num_any (n : Int) (W : World) (hE : ETy W) : Calls Tryd.prog 6 #[errV n] W fun e w' => e = .returned (.int .i64 n) ∧ Below W.heap.size W w' := by
  unfold errV
  by_cases h : n = 0
  · subst h; rw [if_pos rfl]; exact num0 W
  · rw [if_neg h]; exact num1 n W hE
theorem addAll_le (keep : Nat) (gone : Int) (l ms : List Mk) : gone ≤ (addAll keep (gone, l) ms).1 ∧ (addAll keep (gone, l) ms).1 ≤ gone + ms.length := by
  induction ms generalizing gone l with
  | nil => simp [addAll]
  | cons m r ih =>
    have e : addAll keep (gone, l) (m :: r) = addAll keep (addOne keep (gone, l) m) r := rfl
    rw [e]
    unfold addOne
    split
    · have := ih (gone + 1) (l.drop 1 ++ [m]); simp only [List.length_cons] at *; omega
    · have := ih gone (l ++ [m]); simp only [List.length_cons] at *; omega
theorem spec_le (keep : Nat) (gone last : Int) (l ms : List Mk) : gone ≤ (specAdd keep gone last l ms).gone ∧ (specAdd keep gone last l ms).gone ≤ gone + ms.length := by
  by_cases h : okRow last ms
  · rw [spec_ok h]; exact addAll_le keep gone l ms
  · rw [spec_bad h]; constructor <;> simp <;> omega

theorem add_any (W : World) (t q : Nat) (gs : List Nat) (keep : Nat) (gone last : Int) (l ms : List Mk) (v : Value) (h : TS W t q gs keep gone last l) (hv : RM W v ms) (hn : ms.length ≤ 1048576) (hne : ∀ k, v.ownBlock = some k → ¬ tb t q gs k) (hg : 0 ≤ gone ∧ gone ≤ 1000000000) :
    Calls Tryd.prog 8 #[.pointer (some ⟨t, 0, none⟩), v] W fun e w' => e = .returned (errV (specAdd keep gone last l ms).n) ∧ ∃ gs', TS w' t q gs' keep (specAdd keep gone last l ms).gone (specAdd keep gone last l ms).last (specAdd keep gone last l ms).l ∧ (∀ k ∈ gs', k ∈ gs ∨ W.heap.size ≤ k) ∧ Ch (tb t q gs) W w' := by
  by_cases hok : okRow last ms
  · rw [spec_ok hok]
    exact (add_t W t q gs keep gone last l ms v h hv hn hne hok hg)
  · rw [spec_bad hok]
    refine (add_bad W t q gs keep gone last l ms v h hv (by omega) hok).mono ?_
    rintro e w' ⟨rfl, hb⟩
    exact ⟨rfl, gs, h.below hb, fun k hk => .inl hk, Ch.of_below hb _⟩

theorem radd_any (W : World) (keep : Nat) (gone last : Int) (lv v : Value) (l ms : List Mk) (hlv : RM W lv l) (hv : RM W v ms) (hl : l.length ≤ keep) (hk1 : 1 ≤ keep) (hk2 : keep ≤ 4096) (hn : ms.length ≤ 1048576) (hg : 0 ≤ gone ∧ gone ≤ 1000000000) :
    Calls Tryd.prog 9 #[rtV keep gone lv last, v] W fun e w' => ∃ lv', e = .returned (.tuple #[rtV keep (specAdd keep gone last l ms).gone lv' (specAdd keep gone last l ms).last, .int .i64 (specAdd keep gone last l ms).n]) ∧ RM w' lv' (specAdd keep gone last l ms).l ∧ Below W.heap.size W w' ∧ ∀ k, lv'.ownBlock = some k → (lv.ownBlock = some k ∧ (specAdd keep gone last l ms).l = l) ∨ W.heap.size ≤ k := by
  by_cases hok : okRow last ms
  · rw [spec_ok hok]
    refine (radd_ok W keep gone last lv v l ms hlv hv hl hk1 hk2 (by omega) hok (by omega)).mono ?_
    rintro e w' ⟨lv', rfl, h1, h2, h3⟩
    exact ⟨lv', rfl, h1, h2, fun k hk => .inr (h3 k hk)⟩
  · rw [spec_bad hok]
    refine (radd_bad W keep gone last lv v l ms hlv hv (by omega) hok).mono ?_
    rintro e w' ⟨rfl, hb⟩
    exact ⟨lv, rfl, hlv.below hb, hb, fun k hk => .inl ⟨hk, rfl⟩⟩
end Go.Proofs.YtohodbpjcbjifaaDoor
