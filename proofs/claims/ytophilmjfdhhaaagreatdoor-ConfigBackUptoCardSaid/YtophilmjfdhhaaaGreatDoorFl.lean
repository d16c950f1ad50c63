/- What is reserved under a node, layer 25, both sides. -/
import Derived.Test.YtophilmjfdhhaaaGreatDoorFk
namespace Go.Proofs.YtophilmjfdhhaaaGreatDoor
open Go Go.RowKit Go.Shelf Go.Sort
set_option linter.unusedVariables false
set_option linter.unusedSimpArgs false
set_option maxRecDepth 100000
set_option maxHeartbeats 1600000

theorem runder_c (l : List It) (v1 : Value) (par : Int) (W : World) (h : RT W v1 l) (hl : l.length ≤ 1000000000) (hv : ∀ x ∈ l, itR x = true) :
    Calls Tryz.prog 31 #[v1, .int .i64 par] W fun e w' => e = .returned (.int .i64 (underG l par)) ∧ Below W.heap.size W w' := by
  obtain ⟨p, c, rfl, hlc, hcm, hit⟩ := h
  have HIT := Lib.hid hit
  have AT := Lib.hid (fun i hi => underG_at (l := l) (i := i) hi par)
  have BD : Hid (∀ i, 0 ≤ underG (l.take i) par ∧ underG (l.take i) par ≤ 1048576 * l.length) := Lib.hid (fun i => by
    have := underG_bounds par (l.take i) (fun x hx => hv x (List.mem_of_mem_take hx))
    have h2 : (l.take i).length ≤ l.length := by rw [List.length_take]; omega
    omega)
  have EN : Hid (underG (l.take l.length) par = underG l par) := Lib.hid (by rw [List.take_of_length_le (Nat.le_refl _)])
  have OKI : Hid (∀ i, i < l.length → itR (l.getD i default) = true) := Lib.hid (fun i hi => by rw [List.getD, List.getElem?_eq_getElem hi]; exact hv _ (List.getElem_mem hi))
  generalize underG l par = R at *
  clear hv hit
  go_enter Tryz.func31, Tryz.ntmps31
  go_wp2_with fail
  go_loopw [5, 6] (fun sv iv wr => ∃ i : Nat, sv = .int .i64 (underG (l.take i) par) ∧ iv = .int .i64 i ∧ i ≤ l.length ∧ Hid (Below W.heap.size W wr)) (fun _ iv _ => l.length - (intOf iv).toNat)
  case atStart => exact ⟨0, by simp [underG], by go_num, Nat.zero_le _, Lib.hid (Below.refl _ _)⟩
  case round =>
    obtain ⟨i, rfl, rfl, hi, hbe⟩ := hrel
    have hii : (i : Int) ≤ 1000000000 := by omega
    have hbd := BD.out i
    by_cases hlt : i < l.length
    · have hlt' : (i : Int) < (l.length : Int) := by omega
      obtain ⟨b, o, rfl, hb, hx⟩ := HIT.out i hlt
      have x1 := (hbe.out.cell (p := ⟨b, o + i * 5 + 1, none⟩) hb).trans hx.c1
      have x2 := (hbe.out.cell (p := ⟨b, o + i * 5 + 2, none⟩) hb).trans hx.c2
      have x3 := (hbe.out.cell (p := ⟨b, o + i * 5 + 3, none⟩) hb).trans hx.c3
      have hok := OKI.out i hlt
      have UC := Lib.hid (fun w => units_c (l.getD i default).q (l.getD i default).p hok w)
      have hsb := share_bounds hok
      have ATi := AT.out i hlt
      have hbd2 := BD.out (i + 1)
      clear hx hok
      generalize (l.getD i default).q = q at *
      generalize (l.getD i default).p = pp at *
      generalize (l.getD i default).par = px at *
      generalize shareI q pp = S at *
      have hb1 : underG (l.take i) par + S ≤ 2000000000000000000 := by omega
      by_cases hp : px = par
      · rw [if_pos hp] at ATi
        have NX := Lib.hid ATi
        have hq : (px == par) = true := by rw [beq_iff_eq]; exact hp
        clear ATi hlt
        generalize underG (l.take i) par = s at *
        have s0 : 0 ≤ s := hbd.1
        clear hbd hbd2
        subst hp
        go_wp2_with (go_at_call 67; refine (UC.out _).mono ?_; rintro e w2 ⟨rfl, hb2⟩)
        go_roundw
        case rel => exact ⟨i + 1, by rw [NX.out], by go_num, by omega, Lib.hid (hbe.out.trans (hb2.mono hbe.out.size))⟩
        case measure => show l.length - ((i : Int) + 1).toNat < l.length - ((i : Int)).toNat; omega
      · rw [if_neg hp, Int.add_zero] at ATi
        have NX := Lib.hid ATi
        have hq : (px == par) = false := by rw [beq_eq_false_iff_ne]; exact hp
        clear ATi hlt hbd hbd2
        go_wp2_with fail
        go_roundw
        case rel => exact ⟨i + 1, by rw [NX.out], by go_num, by omega, hbe⟩
        case measure => show l.length - ((i : Int) + 1).toNat < l.length - ((i : Int)).toNat; omega
    · obtain rfl : i = l.length := by omega
      have hlt' : ¬ (l.length : Int) < (l.length : Int) := by omega
      clear hlt
      go_wp2_with fail
      go_ret
      exact ⟨by rw [← EN.out, List.take_length]; rfl, hbe.out⟩
theorem under_c (l : List It) (v1 v2 : Value) (par : Int) (n : Nat) (W : World) (h : RT W v1 l) (hn : n ≤ l.length) (hl : l.length ≤ 1000000000) (hv : ∀ x ∈ l.take n, itR x = true) :
    Calls Tryz.prog 30 #[.agg #[v1, v2], .int .i64 par, .int .i64 ((n : Int) - 1)] W fun e w' => e = .returned (.int .i64 (underG (l.take n) par)) ∧ Below W.heap.size W w' := by
  obtain ⟨p, c, rfl, hlc, hcm, hit⟩ := h
  have HIT := Lib.hid hit
  have AT := Lib.hid (fun i hi => underG_at (l := l) (i := i) hi par)
  have BD : Hid (∀ i, i ≤ n → 0 ≤ underG (l.take i) par ∧ underG (l.take i) par ≤ 1048576 * l.length) := Lib.hid (fun i hi => by
    have := underG_bounds par (l.take i) (fun x hx => hv x (List.take_subset_take_left l hi hx))
    have h2 : (l.take i).length ≤ l.length := by rw [List.length_take]; omega
    omega)
  have OKI : Hid (∀ i, i < n → itR (l.getD i default) = true) := Lib.hid (fun i hi => by
    refine hv _ ?_
    have hil : i < l.length := by omega
    rw [List.getD, List.getElem?_eq_getElem hil]
    exact List.mem_take_iff_getElem.2 ⟨i, by omega, rfl⟩)
  obtain ⟨R, hR⟩ : ∃ R, R = underG (l.take n) par := ⟨_, rfl⟩
  have HR := Lib.hid hR
  rw [← hR]
  have hni : (n : Int) ≤ 1000000000 := by omega
  have hnc : (n : Int) ≤ c := by omega
  have hn1 : (n : Int) - 1 + 1 = n := by omega
  have hb0 : Below W.heap.size W (W.alloc (trObj (.slice p l.length c) v2)) := (Below.refl _ _).alloc (Nat.le_refl _) _
  have HB0 := Lib.hid hb0
  clear hv hit hR hb0
  go_enter Tryz.func30, Tryz.ntmps30
  go_wp2_with fail
  go_loopw [7, 18] (fun sv iv wr => ∃ i : Nat, sv = .int .i64 (underG (l.take i) par) ∧ iv = .int .i64 i ∧ i ≤ n ∧ Hid (Below W.heap.size W wr)) (fun _ iv _ => n - (intOf iv).toNat)
  case atStart => exact ⟨0, by simp [underG], by go_num, Nat.zero_le _, HB0⟩
  case round =>
    obtain ⟨i, rfl, rfl, hi, hbe⟩ := hrel
    have hii : (i : Int) ≤ 1000000000 := by omega
    have hbd := BD.out i hi
    by_cases hlt : i < n
    · have hlt' : (i : Int) < (n : Int) := by omega
      obtain ⟨b, o, rfl, hb, hx⟩ := HIT.out i (by omega)
      have x0 := (hbe.out.cell (p := ⟨b, o + i * 5, none⟩) hb).trans hx.c0
      have x1 := (hbe.out.cell (p := ⟨b, o + i * 5 + 1, none⟩) hb).trans hx.c1
      have x2 := (hbe.out.cell (p := ⟨b, o + i * 5 + 2, none⟩) hb).trans hx.c2
      have x3 := (hbe.out.cell (p := ⟨b, o + i * 5 + 3, none⟩) hb).trans hx.c3
      obtain ⟨u, x4, hu⟩ := hx.c4
      have x4 := (hbe.out.cell (p := ⟨b, o + i * 5 + 4, none⟩) hb).trans x4
      obtain ⟨ua, uc, rfl⟩ := RI_form hu
      have hok := OKI.out i hlt
      have UC := Lib.hid (fun w => share_c (l.getD i default).q (l.getD i default).p hok w)
      have hsb := share_bounds hok
      have ATi := AT.out i (by omega)
      have hbd2 := BD.out (i + 1) hlt
      clear hx hok hu
      generalize (l.getD i default).q = q at *
      generalize (l.getD i default).p = pp at *
      generalize (l.getD i default).par = px at *
      generalize (l.getD i default).nm = nx at *
      generalize (l.getD i default).pr.length = np at *
      generalize shareI q pp = S at *
      have hb1 : underG (l.take i) par + S ≤ 2000000000000000000 := by omega
      have BE1 := Lib.hid (fun o => hbe.out.alloc hbe.out.size o)
      by_cases hp : px = par
      · rw [if_pos hp] at ATi
        have NX := Lib.hid ATi
        have hq : (px == par) = true := by rw [beq_iff_eq]; exact hp
        clear ATi hlt
        generalize underG (l.take i) par = s at *
        have s0 : 0 ≤ s := hbd.1
        clear hbd hbd2
        subst hp
        go_wp2_with (go_at_call 66; refine (UC.out _).mono ?_; rintro e w2 ⟨rfl, hb2⟩)
        go_roundw
        case rel => exact ⟨i + 1, by rw [NX.out], by go_num, by omega, Lib.hid ((BE1.out _).trans (hb2.mono (BE1.out _).size))⟩
        case measure => show n - ((i : Int) + 1).toNat < n - ((i : Int)).toNat; omega
      · rw [if_neg hp, Int.add_zero] at ATi
        have NX := Lib.hid ATi
        have hq : (px == par) = false := by rw [beq_eq_false_iff_ne]; exact hp
        clear ATi hlt hbd hbd2
        go_wp2_with fail
        go_roundw
        case rel => exact ⟨i + 1, by rw [NX.out], by go_num, by omega, Lib.hid (BE1.out _)⟩
        case measure => show n - ((i : Int) + 1).toNat < n - ((i : Int)).toNat; omega
    · obtain rfl : i = n := by omega
      have hlt' : ¬ (i : Int) < (i : Int) := by omega
      clear hlt
      go_wp2_with fail
      go_ret
      exact ⟨by rw [HR.out]; rfl, hbe.out⟩
theorem checkLoad_c (l : List It) (v1 v2 : Value) (i : Nat) (W : World) (h : RT W v1 l) (hi : i < l.length) (hl : l.length ≤ 1000000000) (hv : ∀ x ∈ l.take (i + 1), itR x = true) :
    Calls Tryz.prog 49 #[.agg #[v1, v2], .int .i64 i] W fun e w' => e = .returned (if 1048576 < underG (l.take (i + 1)) (l.getD i default).par then errN 80 else .nilIface) ∧ Below W.heap.size W w' := by
  obtain ⟨w0, hw0⟩ : ∃ w0, w0 = W.alloc (trObj v1 v2) := ⟨_, rfl⟩
  have b0 : Below W.heap.size W w0 := by rw [hw0]; exact (Below.refl _ _).alloc (Nat.le_refl _) _
  have s0 : W.heap.size < w0.heap.size := by rw [hw0]; simp
  have hcast : (((i + 1 : Nat) : Int) - 1) = (i : Int) := by omega
  have UC : ∀ d os, Calls Tryz.prog 30 #[.agg #[v1, v2], .int .i64 (l.getD i default).par, .int .i64 i] (grow (redrawn w0 d) os) fun e w'' => e = .returned (.int .i64 (underG (l.take (i + 1)) (l.getD i default).par)) ∧ ∃ p : Regrown, w'' = grow (redrawn w0 p.d) p.os :=
    fun d os => Calls.regrown_of (by have := under_c l v1 v2 (l.getD i default).par (i + 1) (grow (redrawn w0 d) os) ((h.below b0).below (below_regrown w0 d os)) hi hl hv; rw [hcast] at this; exact this)
  have hbd := underG_bounds (l.getD i default).par (l.take (i + 1)) hv
  obtain ⟨p, c, rfl, hlc, hcm, hit⟩ := h.out
  obtain ⟨b, o, rfl, hbW, hit⟩ := hit (by omega)
  have x1 : ∀ d os, (grow (redrawn w0 d) os).cell? ⟨b, o + i * 5 + 1, none⟩ = some (.int .i64 (l.getD i default).par) := fun d os => cell_regrown ((b0.cell (p := ⟨b, o + i * 5 + 1, none⟩) hbW).trans (hit i hi).c1) d os
  have C : w0.heap[W.heap.size]? = some (trObj (.slice (some ⟨b, o, none⟩) l.length c) v2) := by rw [hw0]; exact new_blk _
  have c0 : ∀ d os, (grow (redrawn w0 d) os).cell? ⟨W.heap.size, 0, none⟩ = some (.slice (some ⟨b, o, none⟩) l.length c) := fun d os => cell_regrown (two_a C) d os
  have c1 : ∀ d os, (grow (redrawn w0 d) os).cell? ⟨W.heap.size, 1, none⟩ = some v2 := fun d os => cell_regrown (two_b C) d os
  have CU := Lib.hid UC
  clear UC
  have HW : Hid (w0 = W.alloc (trObj (.slice (some ⟨b, o, none⟩) l.length c) v2)) := Lib.hid hw0
  have B0 := Lib.hid b0
  have B01 := Lib.hid (Nat.le_of_lt s0)
  have hib : (i : Int) ≤ 1000000000 := by omega
  have hil : (i : Int) < (l.length : Int) := by omega
  generalize (l.getD i default).par = px at *
  generalize underG (l.take (i + 1)) px = S at *
  clear h hw0 C hit hv s0 hcast hbd hbW
  by_cases hs : 1048576 < S
  · rw [if_pos hs]
    go_enter Tryz.func49, Tryz.ntmps49
    go_wp2_with fail
    rw [← HW.out]
    refine wp_region_quiet_below (by kernel_rfl) (by kernel_rfl) ?_
    repeat (quiet_step (first | with_reducible exact CU.out _ _))
    refine wpQuiet_nil ?_
    intro _ hw'
    obtain ⟨⟨dq, osq⟩, rfl⟩ := hw'
    go_wp2
    go_ret
    exact ⟨rfl, B0.out.trans ((below_regrown w0 dq osq).mono B01.out)⟩
  · rw [if_neg hs]
    go_enter Tryz.func49, Tryz.ntmps49
    go_wp2_with fail
    rw [← HW.out]
    refine wp_region_quiet_below (by kernel_rfl) (by kernel_rfl) ?_
    repeat (quiet_step (first | with_reducible exact CU.out _ _))
    refine wpQuiet_nil ?_
    intro _ hw'
    obtain ⟨⟨dq, osq⟩, rfl⟩ := hw'
    go_wp2
    go_ret
    exact ⟨rfl, B0.out.trans ((below_regrown w0 dq osq).mono B01.out)⟩
end Go.Proofs.YtophilmjfdhhaaaGreatDoor
