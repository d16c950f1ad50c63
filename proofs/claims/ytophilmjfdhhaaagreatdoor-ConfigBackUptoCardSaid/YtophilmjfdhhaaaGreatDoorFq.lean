/- config.parser.node. -/
import Derived.Test.YtophilmjfdhhaaaGreatDoorFp
namespace Go.Proofs.YtophilmjfdhhaaaGreatDoor
open Go Go.RowKit Go.Shelf Go.Sort
set_option linter.unusedVariables false
set_option linter.unusedSimpArgs false
set_option maxRecDepth 100000
set_option maxHeartbeats 6400000

theorem PS.cells {w : World} {B P : Nat} {t : Tr} {f : Bool} (h : PS w B P t f) : ∃ v1 v2, w.heap[P]? = some (.cells #[v1, v2, .bool f] 68) ∧ RT w v1 t.items := by
  obtain ⟨v1, v2, cs, h1, h2, h3, _⟩ := h.out
  exact ⟨v1, v2, h1, (RT_own h2 h3).1⟩
theorem node_bad (t : Tr) (ws : List (List UInt8)) (n : Nat) (v : Value) (B P : Nat) (f : Bool) (W : World) (hp : PS W B P t f) (hw : Wl t.items) (hr : RS W v ws) (hwl : ws.length ≤ 16777216) (hwb : ∀ x ∈ ws, x.length ≤ 16777216) (hn : n ≤ 16777216) (hl : t.items.length ≤ 1000000)
    (hbad : n % 2 = 1 ∨ depS t.items ((t.items.length : Int) - 1) < n / 2 ∨ ws.length < 2 ∨ nameS (ws.getD 0 []) = false) :
    Calls Tryz.prog 59 #[.pointer (some ⟨P, 0, none⟩), v, .int .i64 n] W fun e w' => e = .returned (errN 250) ∧ Below W.heap.size W w' := by
  obtain ⟨v1, v2, hP, hrt⟩ := hp.cells
  obtain ⟨p, c, rfl, hlc, hcm, _⟩ := hrt.out
  have P0 : W.cell? ⟨P, 0, none⟩ = some (.slice p t.items.length c) := blk_cell hP rfl
  have P1 : W.cell? ⟨P, 1, none⟩ = some v2 := blk_cell hP rfl
  have DC := Lib.hid (fun h0 => depth_c t.items (.slice p t.items.length c) v2 ((t.items.length : Int) - 1) W hrt hw (by omega) (by omega) (by omega))
  have hdl := depS_le hw (((t.items.length : Int) - 1).toNat) ((t.items.length : Int) - 1) (Nat.le_refl _) (by omega)
  have hd0 : t.items.length = 0 → depS t.items ((t.items.length : Int) - 1) = 0 := fun h => depS_neg _ (by omega)
  obtain ⟨D, hD⟩ : ∃ D, D = depS t.items ((t.items.length : Int) - 1) := ⟨_, rfl⟩
  rw [← hD] at DC hbad hdl hd0
  have hDb : (D : Int) ≤ 1000001 := by omega
  obtain ⟨pw, cw, rfl, hcw⟩ := hr.out
  have hli : (t.items.length : Int) ≤ 1000000 := by omega
  have hni : (n : Int) ≤ 16777216 := by omega
  generalize t.items.length = L at *
  have ht2 : (n : Int).tmod 2 = (n : Int) % 2 := Int.tmod_eq_emod_of_nonneg (by omega)
  have htd : (n : Int).tdiv 2 = (n : Int) / 2 := Int.tdiv_eq_ediv_of_nonneg (by omega)
  have hwi : (ws.length : Int) ≤ 16777216 := by omega
  have HCW := Lib.hid hcw
  have NM := Lib.hid (fun w (h : 0 < ws.length) => named_any ⟨(ws.getD 0 []).toArray⟩ w (by rw [sz]; have := hwb (ws.getD 0 []) (by rw [List.getD, List.getElem?_eq_getElem h]; exact List.getElem_mem h); omega))
  simp only [] at NM
  clear hrt hp hP hD hr hwb hcw
  rcases (by omega : (L = 0 ∧ D = 0) ∨ 1 ≤ L) with ⟨rfl, rfl⟩ | h1
  · rcases (by
      by_cases a : n % 2 = 1
      · exact .inl a
      · by_cases b : 0 < n / 2
        · exact .inr (.inl ⟨by omega, b⟩)
        · by_cases c : ws.length < 2
          · exact .inr (.inr (.inl ⟨by omega, by omega, c⟩))
          · exact .inr (.inr (.inr ⟨by omega, by omega, by omega, by simpa [a, b, c] using hbad⟩)) : n % 2 = 1 ∨ (n % 2 = 0 ∧ 0 < n / 2) ∨ (n % 2 = 0 ∧ ¬ 0 < n / 2 ∧ ws.length < 2) ∨ (n % 2 = 0 ∧ ¬ 0 < n / 2 ∧ 2 ≤ ws.length ∧ nameS (ws.getD 0 []) = false)) with a | ⟨a, b⟩ | ⟨a, b, c⟩ | ⟨a, b, c, d⟩
    · have e1 : ((n : Int) % 2 == 1) = true := by rw [beq_iff_eq]; omega
      clear hbad
      go_enter Tryz.func59, Tryz.ntmps59
      go_wp2_with fail
      go_ret
      exact ⟨rfl, Below.refl _ _⟩
    · have e1 : ((n : Int) % 2 == 1) = false := by rw [beq_eq_false_iff_ne]; omega
      have e2 : (0 : Int) < (n : Int) / 2 := by omega
      have e3 : decide ((0 : Int) < (n : Int) / 2) = true := decide_eq_true e2
      clear hbad
      go_enter Tryz.func59, Tryz.ntmps59
      go_wp2_with fail
      go_ret
      exact ⟨rfl, Below.refl _ _⟩
    · have e1 : ((n : Int) % 2 == 1) = false := by rw [beq_eq_false_iff_ne]; omega
      have e2 : ¬ (0 : Int) < (n : Int) / 2 := by omega
      have e3 : decide ((0 : Int) < (n : Int) / 2) = false := decide_eq_false e2
      have e4 : (ws.length : Int) < 2 := by omega
      have e5 : decide (ws.length < 2) = true := decide_eq_true c
      clear hbad
      go_enter Tryz.func59, Tryz.ntmps59
      go_wp2_with fail
      go_ret
      exact ⟨rfl, Below.refl _ _⟩
    · have e1 : ((n : Int) % 2 == 1) = false := by rw [beq_eq_false_iff_ne]; omega
      have e2 : ¬ (0 : Int) < (n : Int) / 2 := by omega
      have e3 : decide ((0 : Int) < (n : Int) / 2) = false := decide_eq_false e2
      have e4 : ¬ (ws.length : Int) < 2 := by omega
      have e5 : decide (ws.length < 2) = false := decide_eq_false (by omega)
      have e6 : (0 : Int) < (ws.length : Int) := by omega
      obtain ⟨b, off, rfl, hb, g0⟩ := HCW.out 0 (by omega)
      rw [Nat.add_zero] at g0
      have NC := Lib.hid (fun w => NM.out w (by omega))
      rw [d] at NC
      clear hbad d NM HCW
      generalize ws.getD 0 [] = x0 at *
      go_enter Tryz.func59, Tryz.ntmps59
      go_wp2_with (go_at_call 73; refine (NC.out _).mono ?_; rintro e w2 ⟨rfl, hb2⟩)
      go_ret
      exact ⟨rfl, hb2⟩
  · have h1' : (1 : Int) ≤ (L : Int) := by omega
    have h1'' : (0 : Int) ≤ (L : Int) - 1 := by omega
    have DC2 := Lib.hid (DC.out (by omega))
    rcases (by
      by_cases a : n % 2 = 1
      · exact .inl a
      · by_cases b : D < n / 2
        · exact .inr (.inl ⟨by omega, b⟩)
        · by_cases c : ws.length < 2
          · exact .inr (.inr (.inl ⟨by omega, by omega, c⟩))
          · exact .inr (.inr (.inr ⟨by omega, by omega, by omega, by simpa [a, b, c] using hbad⟩)) : n % 2 = 1 ∨ (n % 2 = 0 ∧ D < n / 2) ∨ (n % 2 = 0 ∧ ¬ D < n / 2 ∧ ws.length < 2) ∨ (n % 2 = 0 ∧ ¬ D < n / 2 ∧ 2 ≤ ws.length ∧ nameS (ws.getD 0 []) = false)) with a | ⟨a, b⟩ | ⟨a, b, c⟩ | ⟨a, b, c, d⟩
    · have e1 : ((n : Int) % 2 == 1) = true := by rw [beq_iff_eq]; omega
      clear hbad
      go_enter Tryz.func59, Tryz.ntmps59
      go_wp2_with (first | (go_at_call 38; refine DC2.out.mono ?_; rintro e w1 ⟨rfl, hb1⟩))
      go_ret
      exact ⟨rfl, hb1⟩
    · have e1 : ((n : Int) % 2 == 1) = false := by rw [beq_eq_false_iff_ne]; omega
      have e2 : (D : Int) < (n : Int) / 2 := by omega
      have e3 : decide ((D : Int) < (n : Int) / 2) = true := decide_eq_true e2
      clear hbad
      go_enter Tryz.func59, Tryz.ntmps59
      go_wp2_with (first | (go_at_call 38; refine DC2.out.mono ?_; rintro e w1 ⟨rfl, hb1⟩))
      go_ret
      exact ⟨rfl, hb1⟩
    · have e1 : ((n : Int) % 2 == 1) = false := by rw [beq_eq_false_iff_ne]; omega
      have e2 : ¬ (D : Int) < (n : Int) / 2 := by omega
      have e3 : decide ((D : Int) < (n : Int) / 2) = false := decide_eq_false e2
      have e4 : (ws.length : Int) < 2 := by omega
      have e5 : decide (ws.length < 2) = true := decide_eq_true c
      clear hbad
      go_enter Tryz.func59, Tryz.ntmps59
      go_wp2_with (first | (go_at_call 38; refine DC2.out.mono ?_; rintro e w1 ⟨rfl, hb1⟩))
      go_ret
      exact ⟨rfl, hb1⟩
    · have e1 : ((n : Int) % 2 == 1) = false := by rw [beq_eq_false_iff_ne]; omega
      have e2 : ¬ (D : Int) < (n : Int) / 2 := by omega
      have e3 : decide ((D : Int) < (n : Int) / 2) = false := decide_eq_false e2
      have e4 : ¬ (ws.length : Int) < 2 := by omega
      have e5 : decide (ws.length < 2) = false := decide_eq_false (by omega)
      have e6 : (0 : Int) < (ws.length : Int) := by omega
      obtain ⟨b, off, rfl, hb, g0⟩ := HCW.out 0 (by omega)
      rw [Nat.add_zero] at g0
      have G := Lib.hid (fun w (h : Below W.heap.size W w) => (h.cell (p := ⟨b, off, none⟩) hb).trans g0)
      have NC := Lib.hid (fun w => NM.out w (by omega))
      rw [d] at NC
      clear hbad d g0 NM HCW
      generalize ws.getD 0 [] = x0 at *
      go_enter Tryz.func59, Tryz.ntmps59
      go_wp2_with (first | (go_at_call 38; refine DC2.out.mono ?_; rintro e w1 ⟨rfl, hb1⟩; have g0 := G.out _ hb1) | (go_at_call 73; refine (NC.out _).mono ?_; rintro e w2 ⟨rfl, hb2⟩))
      go_ret
      exact ⟨rfl, hb1.trans (hb2.mono hb1.size)⟩
end Go.Proofs.YtophilmjfdhhaaaGreatDoor
