/- Names of layer 25: config.named, titheref25.Name at every text; Number of the reference. -/
import Derived.Test.YtophilmjfdhhaaaGreatDoorFn
import Derived.Shelf.Strings.SlTrimAscii
namespace Go.Proofs.YtophilmjfdhhaaaGreatDoor
open Go Go.RowKit Go.Shelf Go.Sort
set_option linter.unusedVariables false
set_option linter.unusedSimpArgs false
set_option maxRecDepth 100000
set_option maxHeartbeats 1600000

/-- May a code stand in a name? -/
def nb (n : Nat) : Bool := (decide (97 ≤ n) && decide (n ≤ 122)) || (decide (48 ≤ n) && decide (n ≤ 57)) || n == 95
def wRoot : List UInt8 := [114, 111, 111, 116]
def wSlack : List UInt8 := [115, 108, 97, 99, 107]
def wTasks : List UInt8 := [116, 97, 115, 107, 115]
def nameS (l : List UInt8) : Bool :=
  decide (0 < l.length) && decide (l.length ≤ 32) && !(l == wRoot) && !(l == wSlack) && !(l == wTasks) && decide (97 ≤ (l.getD 0 0).toNat) && decide ((l.getD 0 0).toNat ≤ 122) && l.all fun b => nb b.toNat
def cutS : List UInt8 := [97, 98, 99, 100, 101, 102, 103, 104, 105, 106, 107, 108, 109, 110, 111, 112, 113, 114, 115, 116, 117, 118, 119, 120, 121, 122, 48, 49, 50, 51, 52, 53, 54, 55, 56, 57, 95]
theorem cutS_nb (b : UInt8) : cutS.contains b = nb b.toNat := by
  have key : ∀ n : Fin 256, cutS.contains (UInt8.ofNat n.val) = nb n.val := by decide +kernel
  have := key ⟨b.toNat, b.toNat_lt⟩
  simpa using this
theorem dropW_nil {α : Type} (p : α → Bool) : ∀ l : List α, l.dropWhile p = [] ↔ ∀ x ∈ l, p x = true
  | [] => by simp
  | a :: t => by
    rw [List.dropWhile_cons]
    cases h : p a with
    | true => simp [h, dropW_nil p t]
    | false => simp [h]
theorem dropW_sub {α : Type} (p : α → Bool) : ∀ l : List α, ∀ x ∈ l, p x = false → x ∈ l.dropWhile p
  | [], _, h, _ => by cases h
  | a :: t, x, h, hp => by
    rw [List.dropWhile_cons]
    cases ha : p a with
    | true =>
      simp only [if_true]
      rcases List.mem_cons.1 h with rfl | h
      · rw [ha] at hp; cases hp
      · exact dropW_sub p t x h hp
    | false => simpa using h
theorem trim_all {l : List UInt8} (h : (l.all fun b => nb b.toNat) = true) : Lib.trimS l cutS = [] := by
  unfold Lib.trimS Lib.trimRightS
  rw [(dropW_nil (cutS.contains ·) l.reverse).2 (fun x hx => by rw [cutS_nb]; exact List.all_eq_true.1 h x (List.mem_reverse.1 hx))]
  rfl
theorem trim_some {l : List UInt8} (h : (l.all fun b => nb b.toNat) = false) : ∃ x r, Lib.trimS l cutS = x :: r := by
  obtain ⟨x, hx, hf⟩ := List.all_eq_false.1 h
  have hf' : cutS.contains x = false := by rw [cutS_nb]; simpa using hf
  have h1 : x ∈ Lib.trimRightS l cutS := by
    unfold Lib.trimRightS
    exact List.mem_reverse.2 (dropW_sub (cutS.contains ·) _ x (List.mem_reverse.2 hx) hf')
  have h2 : x ∈ Lib.trimS l cutS := dropW_sub (cutS.contains ·) _ x h1 hf'
  cases e : Lib.trimS l cutS with
  | nil => rw [e] at h2; cases h2
  | cons a r => exact ⟨a, r, rfl⟩
theorem ne_of_sizeB {s : ByteArray} (h : 0 < s.size) : s.toList.isEmpty = false := by
  rw [ByteArray.toList_eq]
  have hl : s.data.toList.length = s.size := Array.length_toList
  cases e : s.data.toList with
  | nil => rw [e] at hl; simp at hl; omega
  | cons a b => rfl
theorem nil_of_sizeB {s : ByteArray} (h : s.size = 0) : s = ⟨#[]⟩ := by
  cases s with | mk d =>
  congr 1
  exact Array.eq_empty_of_size_eq_zero h
theorem of_lst {s : ByteArray} {l : List UInt8} (h : s.data.toList = l) : s = ⟨l.toArray⟩ := by rw [← h]
theorem nameS_cases {s : ByteArray} (h0 : 0 < s.size) (h1 : s.size ≤ 32) (hr : ¬ s.data.toList = wRoot) (hs : ¬ s.data.toList = wSlack) (ht : ¬ s.data.toList = wTasks) (h97 : 97 ≤ (s[0]).toNat) (h122 : (s[0]).toNat ≤ 122) :
    nameS s.data.toList = s.data.toList.all fun b => nb b.toNat := by
  unfold nameS
  have e0 := byte_at s 0 h0
  rw [e0] at h97 h122
  rw [size_list, decide_eq_true h0, decide_eq_true h1, beq_eq_false_iff_ne.2 hr, beq_eq_false_iff_ne.2 hs, beq_eq_false_iff_ne.2 ht, decide_eq_true h97, decide_eq_true h122]
  rfl
theorem nameS_first {s : ByteArray} (h0 : 0 < s.size) (h : (s[0]).toNat < 97 ∨ 122 < (s[0]).toNat) : nameS s.data.toList = false := by
  unfold nameS
  rw [byte_at s 0 h0] at h
  rcases h with h | h
  · rw [decide_eq_false (p := 97 ≤ (s.data.toList.getD 0 0).toNat) (by omega)]; simp
  · rw [decide_eq_false (p := (s.data.toList.getD 0 0).toNat ≤ 122) (by omega)]; simp
theorem nameS_long {s : ByteArray} (h : 32 < s.size) : nameS s.data.toList = false := by
  unfold nameS
  rw [size_list, decide_eq_false (p := s.size ≤ 32) (by omega)]; simp
theorem trim_c (s : ByteArray) (W : World) (hs : s.size ≤ 140737488355328) :
    Calls Tryz.prog 98 #[.string s, .string ⟨cutS.toArray⟩] W fun e w' => e = .returned (str (Lib.trimS s.data.toList cutS)) ∧ Below W.heap.size W w' := by
  have := Any.strings_Trim_laid Tryz.lays160 (by kernel_rfl) s ⟨cutS.toArray⟩ W (by omega) (by decide) (ascii_of_all (by decide +kernel))
  exact this
theorem named_early (s : ByteArray) (W : World) (hs : s.size ≤ 140737488355328) (h : ¬ (0 < s.size ∧ s.size ≤ 32 ∧ ¬ s.data.toList = wRoot ∧ ¬ s.data.toList = wSlack ∧ ¬ s.data.toList = wTasks ∧ (∀ h : 0 < s.size, 97 ≤ (s[0]).toNat ∧ (s[0]).toNat ≤ 122))) :
    Calls Tryz.prog 73 #[.string s] W fun e w' => e = .returned (.bool (nameS s.data.toList)) ∧ W = w' := by
  by_cases h0 : s.size = 0
  · rw [nil_of_sizeB h0]
    rw [show nameS (⟨#[]⟩ : ByteArray).data.toList = false by decide]
    clear h h0 hs
    go_enter Tryz.func73, Tryz.ntmps73
    go_wp2_with fail
    go_ret
    exact ⟨rfl, rfl⟩
  have hp : 0 < s.size := by omega
  have he := ne_of_sizeB hp
  have hz0 : ((s.size : Int) == 0) = false := by rw [beq_eq_false_iff_ne]; omega
  have hz1 : (s.size == 0) = false := by rw [beq_eq_false_iff_ne]; omega
  by_cases h1 : 32 < s.size
  · rw [nameS_long h1]
    have h1' : (32 : Int) < (s.size : Int) := by omega
    have h1'' : decide (32 < s.size) = true := decide_eq_true h1
    clear h h0 h1
    go_enter Tryz.func73, Tryz.ntmps73
    go_wp2_with fail
    go_ret
    exact ⟨rfl, rfl⟩
  have h1' : ¬ (32 : Int) < (s.size : Int) := by omega
  have h1'' : decide (32 < s.size) = false := decide_eq_false h1
  by_cases hwRoot : s.data.toList = wRoot
  · rw [of_lst hwRoot]
    rw [show nameS (⟨wRoot.toArray⟩ : ByteArray).data.toList = false by decide]
    clear h h0 h1 h1' h1'' he hz0 hz1
    go_enter Tryz.func73, Tryz.ntmps73
    go_wp2_with fail
    go_ret
    exact ⟨rfl, rfl⟩
  have qwRoot : (s.toList == [114, 111, 111, 116]) = false := by rw [Lib.toList_data, beq_eq_false_iff_ne]; exact hwRoot
  by_cases hwSlack : s.data.toList = wSlack
  · rw [of_lst hwSlack]
    rw [show nameS (⟨wSlack.toArray⟩ : ByteArray).data.toList = false by decide]
    clear h h0 h1 h1' h1'' he hz0 hz1
    go_enter Tryz.func73, Tryz.ntmps73
    go_wp2_with fail
    go_ret
    exact ⟨rfl, rfl⟩
  have qwSlack : (s.toList == [115, 108, 97, 99, 107]) = false := by rw [Lib.toList_data, beq_eq_false_iff_ne]; exact hwSlack
  by_cases hwTasks : s.data.toList = wTasks
  · rw [of_lst hwTasks]
    rw [show nameS (⟨wTasks.toArray⟩ : ByteArray).data.toList = false by decide]
    clear h h0 h1 h1' h1'' he hz0 hz1
    go_enter Tryz.func73, Tryz.ntmps73
    go_wp2_with fail
    go_ret
    exact ⟨rfl, rfl⟩
  have qwTasks : (s.toList == [116, 97, 115, 107, 115]) = false := by rw [Lib.toList_data, beq_eq_false_iff_ne]; exact hwTasks
  have hx : (s[0]).toNat < 97 ∨ 122 < (s[0]).toNat := by
    refine Classical.byContradiction fun hn => h ⟨hp, by omega, hwRoot, hwSlack, hwTasks, fun _ => ⟨by omega, by omega⟩⟩
  rw [nameS_first hp hx]
  clear h h0 h1 hwRoot hwSlack hwTasks
  rcases hx with hx | hx
  · have f0 : ((s[0]).toNat : Int) < 97 := by omega
    have d0 : decide (((s[0]).toNat : Int) < 97) = true := decide_eq_true f0
    clear hx
    go_enter Tryz.func73, Tryz.ntmps73
    go_wp2_with fail
    go_ret
    exact ⟨rfl, rfl⟩
  · have f0 : ¬ ((s[0]).toNat : Int) < 97 := by omega
    have d0 : decide (((s[0]).toNat : Int) < 97) = false := decide_eq_false f0
    have f1 : (122 : Int) < ((s[0]).toNat : Int) := by omega
    have d1 : decide ((122 : Int) < ((s[0]).toNat : Int)) = true := decide_eq_true f1
    clear hx
    go_enter Tryz.func73, Tryz.ntmps73
    go_wp2_with fail
    go_ret
    exact ⟨rfl, rfl⟩
theorem rname_early (s : ByteArray) (W : World) (hs : s.size ≤ 140737488355328) (h : ¬ (0 < s.size ∧ s.size ≤ 32 ∧ ¬ s.data.toList = wRoot ∧ ¬ s.data.toList = wSlack ∧ ¬ s.data.toList = wTasks ∧ (∀ h : 0 < s.size, 97 ≤ (s[0]).toNat ∧ (s[0]).toNat ≤ 122))) :
    Calls Tryz.prog 75 #[.string s] W fun e w' => e = .returned (.bool (nameS s.data.toList)) ∧ W = w' := by
  by_cases h0 : s.size = 0
  · rw [nil_of_sizeB h0]
    rw [show nameS (⟨#[]⟩ : ByteArray).data.toList = false by decide]
    clear h h0 hs
    go_enter Tryz.func75, Tryz.ntmps75
    go_wp2_with fail
    go_ret
    exact ⟨rfl, rfl⟩
  have hp : 0 < s.size := by omega
  have he := ne_of_sizeB hp
  have hz0 : ((s.size : Int) == 0) = false := by rw [beq_eq_false_iff_ne]; omega
  have hz1 : (s.size == 0) = false := by rw [beq_eq_false_iff_ne]; omega
  by_cases h1 : 32 < s.size
  · rw [nameS_long h1]
    have h1' : (32 : Int) < (s.size : Int) := by omega
    have h1'' : decide (32 < s.size) = true := decide_eq_true h1
    clear h h0 h1
    go_enter Tryz.func75, Tryz.ntmps75
    go_wp2_with fail
    go_ret
    exact ⟨rfl, rfl⟩
  have h1' : ¬ (32 : Int) < (s.size : Int) := by omega
  have h1'' : decide (32 < s.size) = false := decide_eq_false h1
  by_cases hwRoot : s.data.toList = wRoot
  · rw [of_lst hwRoot]
    rw [show nameS (⟨wRoot.toArray⟩ : ByteArray).data.toList = false by decide]
    clear h h0 h1 h1' h1'' he hz0 hz1
    go_enter Tryz.func75, Tryz.ntmps75
    go_wp2_with fail
    go_ret
    exact ⟨rfl, rfl⟩
  have qwRoot : (s.toList == [114, 111, 111, 116]) = false := by rw [Lib.toList_data, beq_eq_false_iff_ne]; exact hwRoot
  by_cases hwSlack : s.data.toList = wSlack
  · rw [of_lst hwSlack]
    rw [show nameS (⟨wSlack.toArray⟩ : ByteArray).data.toList = false by decide]
    clear h h0 h1 h1' h1'' he hz0 hz1
    go_enter Tryz.func75, Tryz.ntmps75
    go_wp2_with fail
    go_ret
    exact ⟨rfl, rfl⟩
  have qwSlack : (s.toList == [115, 108, 97, 99, 107]) = false := by rw [Lib.toList_data, beq_eq_false_iff_ne]; exact hwSlack
  by_cases hwTasks : s.data.toList = wTasks
  · rw [of_lst hwTasks]
    rw [show nameS (⟨wTasks.toArray⟩ : ByteArray).data.toList = false by decide]
    clear h h0 h1 h1' h1'' he hz0 hz1
    go_enter Tryz.func75, Tryz.ntmps75
    go_wp2_with fail
    go_ret
    exact ⟨rfl, rfl⟩
  have qwTasks : (s.toList == [116, 97, 115, 107, 115]) = false := by rw [Lib.toList_data, beq_eq_false_iff_ne]; exact hwTasks
  have hx : (s[0]).toNat < 97 ∨ 122 < (s[0]).toNat := by
    refine Classical.byContradiction fun hn => h ⟨hp, by omega, hwRoot, hwSlack, hwTasks, fun _ => ⟨by omega, by omega⟩⟩
  rw [nameS_first hp hx]
  clear h h0 h1 hwRoot hwSlack hwTasks
  rcases hx with hx | hx
  · have f0 : ((s[0]).toNat : Int) < 97 := by omega
    have d0 : decide (((s[0]).toNat : Int) < 97) = true := decide_eq_true f0
    clear hx
    go_enter Tryz.func75, Tryz.ntmps75
    go_wp2_with fail
    go_ret
    exact ⟨rfl, rfl⟩
  · have f0 : ¬ ((s[0]).toNat : Int) < 97 := by omega
    have d0 : decide (((s[0]).toNat : Int) < 97) = false := decide_eq_false f0
    have f1 : (122 : Int) < ((s[0]).toNat : Int) := by omega
    have d1 : decide ((122 : Int) < ((s[0]).toNat : Int)) = true := decide_eq_true f1
    clear hx
    go_enter Tryz.func75, Tryz.ntmps75
    go_wp2_with fail
    go_ret
    exact ⟨rfl, rfl⟩
theorem named_any (s : ByteArray) (W : World) (hs : s.size ≤ 140737488355328) :
    Calls Tryz.prog 73 #[.string s] W fun e w' => e = .returned (.bool (nameS s.data.toList)) ∧ Below W.heap.size W w' := by
  by_cases hg : 0 < s.size ∧ s.size ≤ 32 ∧ ¬ s.data.toList = wRoot ∧ ¬ s.data.toList = wSlack ∧ ¬ s.data.toList = wTasks ∧ (∀ h : 0 < s.size, 97 ≤ (s[0]).toNat ∧ (s[0]).toNat ≤ 122)
  rotate_left
  · exact (named_early s W hs hg).mono (fun e w' h => ⟨h.1, by rw [← h.2]; exact Below.refl _ _⟩)
  obtain ⟨hp, h1, hr, hsl, hta, hb⟩ := hg
  obtain ⟨h97, h122⟩ := hb hp
  have he := ne_of_sizeB hp
  have hz0 : ((s.size : Int) == 0) = false := by rw [beq_eq_false_iff_ne]; omega
  have hz1 : (s.size == 0) = false := by rw [beq_eq_false_iff_ne]; omega
  have h1' : ¬ (32 : Int) < (s.size : Int) := by omega
  have h1'' : decide (32 < s.size) = false := decide_eq_false (by omega)
  have q1 : (s.toList == [114, 111, 111, 116]) = false := by rw [Lib.toList_data, beq_eq_false_iff_ne]; exact hr
  have q2 : (s.toList == [115, 108, 97, 99, 107]) = false := by rw [Lib.toList_data, beq_eq_false_iff_ne]; exact hsl
  have q3 : (s.toList == [116, 97, 115, 107, 115]) = false := by rw [Lib.toList_data, beq_eq_false_iff_ne]; exact hta
  rw [nameS_cases hp h1 hr hsl hta h97 h122]
  have TC := Lib.hid (trim_c s W hs)
  obtain ⟨T, hT⟩ : ∃ T, T = Lib.trimS s.data.toList cutS := ⟨_, rfl⟩
  rw [← hT] at TC
  have hc : (T = [] ∧ (s.data.toList.all fun b => nb b.toNat) = true) ∨ ((∃ x r, T = x :: r) ∧ (s.data.toList.all fun b => nb b.toNat) = false) := by
    cases h : s.data.toList.all fun b => nb b.toNat with
    | true => exact .inl ⟨by rw [hT]; exact trim_all h, rfl⟩
    | false => exact .inr ⟨by rw [hT]; exact trim_some h, rfl⟩
  clear hT hr hsl hta hb
  generalize (s.data.toList.all fun b => nb b.toNat) = R at *
  have f0 : ¬ ((s[0]).toNat : Int) < 97 := by omega
  have d0 : decide (((s[0]).toNat : Int) < 97) = false := decide_eq_false f0
  have f1 : ¬ (122 : Int) < ((s[0]).toNat : Int) := by omega
  have d1 : decide ((122 : Int) < ((s[0]).toNat : Int)) = false := decide_eq_false f1
  clear h97 h122 h1
  rcases hc with ⟨rfl, rfl⟩ | ⟨⟨x, r, rfl⟩, rfl⟩
  · go_enter Tryz.func73, Tryz.ntmps73
    go_wp2_with (go_at_call 98; refine TC.out.mono ?_; rintro e w1 ⟨rfl, hb1⟩)
    go_ret
    exact ⟨rfl, hb1⟩
  · have hxe : (⟨(x :: r).toArray⟩ : ByteArray).toList.isEmpty = false := by rw [ByteArray.toList_eq]; rfl
    go_enter Tryz.func73, Tryz.ntmps73
    go_wp2_with (go_at_call 98; refine TC.out.mono ?_; rintro e w1 ⟨rfl, hb1⟩)
    go_ret
    exact ⟨rfl, hb1⟩
theorem all_bad {s : ByteArray} {p : UInt8 → Bool} {k : Nat} (hk : k < s.size) (h : p (s[k]) = false) : s.data.toList.all p = false := by
  rw [Bool.eq_false_iff]
  intro e
  have := List.all_eq_true.1 e s[k] (by rw [byte_at s k hk, List.getD, List.getElem?_eq_getElem (by rw [size_list]; exact hk)]; exact List.getElem_mem _)
  rw [h] at this
  cases this
theorem all_ok {s : ByteArray} {p : UInt8 → Bool} (h : ∀ k, (hk : k < s.size) → p (s[k]) = true) : s.data.toList.all p = true := by
  rw [List.all_eq_true]
  intro x hx
  obtain ⟨i, hi, rfl⟩ := List.getElem_of_mem hx
  have hi' : i < s.size := by rw [← size_list]; exact hi
  have := h i hi'
  rw [byte_at s i hi', List.getD, List.getElem?_eq_getElem hi] at this
  exact this
theorem rname_any (s : ByteArray) (W : World) (hs : s.size ≤ 140737488355328) :
    Calls Tryz.prog 75 #[.string s] W fun e w' => e = .returned (.bool (nameS s.data.toList)) ∧ W = w' := by
  by_cases hg : 0 < s.size ∧ s.size ≤ 32 ∧ ¬ s.data.toList = wRoot ∧ ¬ s.data.toList = wSlack ∧ ¬ s.data.toList = wTasks ∧ (∀ h : 0 < s.size, 97 ≤ (s[0]).toNat ∧ (s[0]).toNat ≤ 122)
  rotate_left
  · exact rname_early s W hs hg
  obtain ⟨hp, h1, hr, hsl, hta, hb⟩ := hg
  obtain ⟨h97, h122⟩ := hb hp
  have he := ne_of_sizeB hp
  have hz0 : ((s.size : Int) == 0) = false := by rw [beq_eq_false_iff_ne]; omega
  have hz1 : (s.size == 0) = false := by rw [beq_eq_false_iff_ne]; omega
  have h1' : ¬ (32 : Int) < (s.size : Int) := by omega
  have h1'' : decide (32 < s.size) = false := decide_eq_false (by omega)
  have q1 : (s.toList == [114, 111, 111, 116]) = false := by rw [Lib.toList_data, beq_eq_false_iff_ne]; exact hr
  have q2 : (s.toList == [115, 108, 97, 99, 107]) = false := by rw [Lib.toList_data, beq_eq_false_iff_ne]; exact hsl
  have q3 : (s.toList == [116, 97, 115, 107, 115]) = false := by rw [Lib.toList_data, beq_eq_false_iff_ne]; exact hta
  rw [nameS_cases hp h1 hr hsl hta h97 h122]
  have OK := Lib.hid (all_ok (s := s) (p := fun b => nb b.toNat))
  have BAD := Lib.hid (fun k hk h => all_bad (s := s) (p := fun b => nb b.toNat) (k := k) hk h)
  clear hr hsl hta hb
  generalize (s.data.toList.all fun b => nb b.toNat) = R at *
  have h32 : s.size ≤ 32 := h1
  obtain ⟨n, hn⟩ : ∃ n, n = (s[0]).toNat := ⟨_, rfl⟩
  have N0 := Lib.hid hn
  rw [← hn] at h97 h122
  have f0 : ¬ ((s[0]).toNat : Int) < 97 := by omega
  have d0 : decide (((s[0]).toNat : Int) < 97) = false := decide_eq_false f0
  have f1 : ¬ (122 : Int) < ((s[0]).toNat : Int) := by omega
  have d1 : decide ((122 : Int) < ((s[0]).toNat : Int)) = false := decide_eq_false f1
  clear h97 h122 h1 hn
  go_enter Tryz.func75, Tryz.ntmps75
  go_wp2_with fail
  clear f0 d0 f1 d1 q1 q2 q3 he hz0 hz1 h1' h1''
  go_loopw [3] (fun i wr => ∃ pos : Nat, i = .int .i64 pos ∧ wr = W ∧ pos ≤ s.size ∧ Hid (∀ k, k < pos → (hk : k < s.size) → nb (s[k]).toNat = true)) (fun i _ => s.size - (intOf i).toNat)
  case atStart => exact ⟨0, by go_num, rfl, Nat.zero_le _, Lib.hid (fun k hk => absurd hk (Nat.not_lt_zero _))⟩
  case round =>
    obtain ⟨pos, rfl, rfl, hpos, hok⟩ := hrel
    have hpi : (pos : Int) ≤ 32 := by omega
    by_cases hlt : pos < s.size
    · have hlt' : (pos : Int) < (s.size : Int) := by omega
      have hix : ∀ w, (Instr.index 9 (.string s) (.int .i64 (pos : Int))).run Tryz.prog w = .ok (.int .u8 (s[pos]).toNat) w := fun w => by
        rw [run_index_string _ _ _ _ _ Tryz.underlying9]; simp [hlt]
      have NX : Hid (nb (s[pos]).toNat = true → ∀ k, k < pos + 1 → (hk : k < s.size) → nb (s[k]).toNat = true) := Lib.hid (fun hg k hk hk' => by
        rcases Nat.lt_or_ge k pos with h | h
        · exact hok.out k h hk'
        · obtain rfl : k = pos := by omega
          exact hg)
      have BD := Lib.hid (fun h => BAD.out pos hlt h)
      generalize (s[pos]).toNat = n at *
      clear hlt
      have h0n : (0 : Int) ≤ n := by omega
      rcases (by omega : n ≤ 47 ∨ (48 ≤ n ∧ n ≤ 57) ∨ (58 ≤ n ∧ n ≤ 94) ∨ n = 95 ∨ n = 96 ∨ (97 ≤ n ∧ n ≤ 122) ∨ 123 ≤ n) with hc | ⟨hc, hc'⟩ | ⟨hc, hc'⟩ | hc | hc | ⟨hc, hc'⟩ | hc
      · have f0 : ¬ (97 ≤ (n : Int)) := by omega
        have d0 : decide (97 ≤ (n : Int)) = false := decide_eq_false f0
        have f1 : (n : Int) ≤ 122 := by omega
        have d1 : decide ((n : Int) ≤ 122) = true := decide_eq_true f1
        have f2 : ¬ (48 ≤ (n : Int)) := by omega
        have d2 : decide (48 ≤ (n : Int)) = false := decide_eq_false f2
        have f3 : (n : Int) ≤ 57 := by omega
        have d3 : decide ((n : Int) ≤ 57) = true := decide_eq_true f3
        have g1 : ((n : Int) == 95) = false := by rw [beq_eq_false_iff_ne]; omega
        have hnb : nb n = false := by rw [Bool.eq_false_iff]; unfold nb; simp; omega
        have HR := Lib.hid (BD.out hnb)
        clear hnb hc
        go_wp2_with fail
        go_ret
        exact ⟨by rw [HR.out]; rfl, rfl⟩
      · have f0 : ¬ (97 ≤ (n : Int)) := by omega
        have d0 : decide (97 ≤ (n : Int)) = false := decide_eq_false f0
        have f1 : (n : Int) ≤ 122 := by omega
        have d1 : decide ((n : Int) ≤ 122) = true := decide_eq_true f1
        have f2 : 48 ≤ (n : Int) := by omega
        have d2 : decide (48 ≤ (n : Int)) = true := decide_eq_true f2
        have f3 : (n : Int) ≤ 57 := by omega
        have d3 : decide ((n : Int) ≤ 57) = true := decide_eq_true f3
        have g1 : ((n : Int) == 95) = false := by rw [beq_eq_false_iff_ne]; omega
        have hnb : nb n = true := by unfold nb; simp; omega
        have NX2 := Lib.hid (NX.out hnb)
        clear hnb hc hc'
        go_wp2_with fail
        go_roundw
        case rel => exact ⟨pos + 1, by go_num, trivial, by omega, NX2⟩
        case measure => show s.size - ((pos : Int) + 1).toNat < s.size - ((pos : Int)).toNat; omega
      · have f0 : ¬ (97 ≤ (n : Int)) := by omega
        have d0 : decide (97 ≤ (n : Int)) = false := decide_eq_false f0
        have f1 : (n : Int) ≤ 122 := by omega
        have d1 : decide ((n : Int) ≤ 122) = true := decide_eq_true f1
        have f2 : 48 ≤ (n : Int) := by omega
        have d2 : decide (48 ≤ (n : Int)) = true := decide_eq_true f2
        have f3 : ¬ ((n : Int) ≤ 57) := by omega
        have d3 : decide ((n : Int) ≤ 57) = false := decide_eq_false f3
        have g1 : ((n : Int) == 95) = false := by rw [beq_eq_false_iff_ne]; omega
        have hnb : nb n = false := by rw [Bool.eq_false_iff]; unfold nb; simp; omega
        have HR := Lib.hid (BD.out hnb)
        clear hnb hc hc'
        go_wp2_with fail
        go_ret
        exact ⟨by rw [HR.out]; rfl, rfl⟩
      · have f0 : ¬ (97 ≤ (n : Int)) := by omega
        have d0 : decide (97 ≤ (n : Int)) = false := decide_eq_false f0
        have f1 : (n : Int) ≤ 122 := by omega
        have d1 : decide ((n : Int) ≤ 122) = true := decide_eq_true f1
        have f2 : 48 ≤ (n : Int) := by omega
        have d2 : decide (48 ≤ (n : Int)) = true := decide_eq_true f2
        have f3 : ¬ ((n : Int) ≤ 57) := by omega
        have d3 : decide ((n : Int) ≤ 57) = false := decide_eq_false f3
        have g1 : ((n : Int) == 95) = true := by rw [beq_iff_eq]; omega
        have hnb : nb n = true := by unfold nb; simp; omega
        have NX2 := Lib.hid (NX.out hnb)
        clear hnb hc
        go_wp2_with fail
        go_roundw
        case rel => exact ⟨pos + 1, by go_num, trivial, by omega, NX2⟩
        case measure => show s.size - ((pos : Int) + 1).toNat < s.size - ((pos : Int)).toNat; omega
      · have f0 : ¬ (97 ≤ (n : Int)) := by omega
        have d0 : decide (97 ≤ (n : Int)) = false := decide_eq_false f0
        have f1 : (n : Int) ≤ 122 := by omega
        have d1 : decide ((n : Int) ≤ 122) = true := decide_eq_true f1
        have f2 : 48 ≤ (n : Int) := by omega
        have d2 : decide (48 ≤ (n : Int)) = true := decide_eq_true f2
        have f3 : ¬ ((n : Int) ≤ 57) := by omega
        have d3 : decide ((n : Int) ≤ 57) = false := decide_eq_false f3
        have g1 : ((n : Int) == 95) = false := by rw [beq_eq_false_iff_ne]; omega
        have hnb : nb n = false := by rw [Bool.eq_false_iff]; unfold nb; simp; omega
        have HR := Lib.hid (BD.out hnb)
        clear hnb hc
        go_wp2_with fail
        go_ret
        exact ⟨by rw [HR.out]; rfl, rfl⟩
      · have f0 : 97 ≤ (n : Int) := by omega
        have d0 : decide (97 ≤ (n : Int)) = true := decide_eq_true f0
        have f1 : (n : Int) ≤ 122 := by omega
        have d1 : decide ((n : Int) ≤ 122) = true := decide_eq_true f1
        have f2 : 48 ≤ (n : Int) := by omega
        have d2 : decide (48 ≤ (n : Int)) = true := decide_eq_true f2
        have f3 : ¬ ((n : Int) ≤ 57) := by omega
        have d3 : decide ((n : Int) ≤ 57) = false := decide_eq_false f3
        have g1 : ((n : Int) == 95) = false := by rw [beq_eq_false_iff_ne]; omega
        have hnb : nb n = true := by unfold nb; simp; omega
        have NX2 := Lib.hid (NX.out hnb)
        clear hnb hc hc'
        go_wp2_with fail
        go_roundw
        case rel => exact ⟨pos + 1, by go_num, trivial, by omega, NX2⟩
        case measure => show s.size - ((pos : Int) + 1).toNat < s.size - ((pos : Int)).toNat; omega
      · have f0 : 97 ≤ (n : Int) := by omega
        have d0 : decide (97 ≤ (n : Int)) = true := decide_eq_true f0
        have f1 : ¬ ((n : Int) ≤ 122) := by omega
        have d1 : decide ((n : Int) ≤ 122) = false := decide_eq_false f1
        have f2 : 48 ≤ (n : Int) := by omega
        have d2 : decide (48 ≤ (n : Int)) = true := decide_eq_true f2
        have f3 : ¬ ((n : Int) ≤ 57) := by omega
        have d3 : decide ((n : Int) ≤ 57) = false := decide_eq_false f3
        have g1 : ((n : Int) == 95) = false := by rw [beq_eq_false_iff_ne]; omega
        have hnb : nb n = false := by rw [Bool.eq_false_iff]; unfold nb; simp; omega
        have HR := Lib.hid (BD.out hnb)
        clear hnb hc
        go_wp2_with fail
        go_ret
        exact ⟨by rw [HR.out]; rfl, rfl⟩
    · have hlt' : ¬ (pos : Int) < (s.size : Int) := by omega
      have HR : Hid (R = true) := Lib.hid (OK.out (fun k hk => hok.out k (by omega) hk))
      clear hlt
      go_wp2_with fail
      go_ret
      exact ⟨by rw [HR.out]; rfl, rfl⟩
end Go.Proofs.YtophilmjfdhhaaaGreatDoor
