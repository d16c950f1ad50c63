/- Rows of marks that are read, appended to a row of the call's own. -/
import Derived.Test.YtohodbpjcbjifaaGreatDoorQg
import Derived.Maps.AppendAt
import Derived.Laws.AppendOwnNone
import Derived.WalkSpells
import Derived.Lib.SliceRun
namespace Go.Proofs.YtohodbpjcbjifaaGreatDoor
open Go Go.RowKit Go.ChangeShapes Go.WideShapes
set_option linter.unusedVariables false
set_option maxRecDepth 100000
set_option maxHeartbeats 800000

theorem flat_at {w : World} {b off : Nat} {l : List Mk} (hc : ∀ i, i < l.length → At5 w b (off + i * 5) (l.getD i default)) : ∀ j u, (flat l)[j]? = some u → w.cell? ((⟨b, off, none⟩ : Addr).add j) = some u := by
  intro j u hj
  have hp : (⟨b, off, none⟩ : Addr).add j = ⟨b, off + j, none⟩ := by unfold Addr.add; split <;> simp_all
  rw [hp]
  have hjl : j < l.length * 5 := by
    rcases Nat.lt_or_ge j (flat l).length with h | h
    · rw [flat_length] at h; exact h
    · rw [List.getElem?_eq_none h] at hj; cases hj
  have hi : j / 5 < l.length := by omega
  have hr : j % 5 < 5 := Nat.mod_lt _ (by decide)
  have e : j = j / 5 * 5 + j % 5 := by omega
  have hf := flat_get l (j / 5) (j % 5) hi hr
  rw [← e, hj] at hf
  have a5 := hc _ hi
  have key : w.cell? ⟨b, off + j / 5 * 5 + j % 5, none⟩ = some u := by
    generalize l.getD (j / 5) default = m at *
    obtain ⟨a0, a1, a2, a3, a4⟩ := a5
    generalize j / 5 * 5 = q at *
    generalize j % 5 = c at *
    have : c = 0 ∨ c = 1 ∨ c = 2 ∨ c = 3 ∨ c = 4 := by omega
    rcases this with rfl | rfl | rfl | rfl | rfl <;> simp [Mk.cells] at hf <;> subst hf <;> assumption
  rw [Nat.add_assoc, ← e] at key
  exact key
theorem flat_one (l : List Mk) : ∀ u ∈ flat l, u.oneCell' = true := by
  intro u hu
  obtain ⟨m, _, hm⟩ := List.mem_flatMap.1 hu
  exact cells_one m u hm
/-- 'append(s, l...)', l a slice of marks that is read, onto a row of the call's own; it tells where the new row lies. -/
theorem appendRM {ops : Array Oper} {rest : List Oper} {o : Oper} {a : Act} {Q : Exit → Act → World → Prop} {W w0 : World} (hgd : o.guard = none) (s x : Operand) (t : TypeId)
    (ho : o.op = .call { callee := .builtin .append, args := #[s, x], argTypes := #[t, t] })
    (base : Nat) (e : TypeId) (i : TypeInfo) (z : Value) (ht : Tryz.prog.underlying t = some (.slice e)) (hi : Tryz.prog.info? e = some i) (hz : i.zero = some z)
    (hsize : i.size = 5) (hby : i.bytes = 40) (hzs : z.cells.size = 5)
    (v : Value) (n : Nat) (xs : List Mk) (hs : a.eval s = v) (hown : w0.ownsRow base e 5 v n (flat xs))
    (u : Value) (l : List Mk) (hx : a.eval x = u) (hu : RM w0 u l)
    (h63 : n + l.length ≤ 3518437208883) (hbase : base ≤ w0.heap.size) (hb : Below base W w0)
    (h : ∀ v' w', w'.ownsRow base e 5 v' (n + l.length) (flat (xs ++ l)) → Below base W w' → Ch (fun k => v.ownBlock = some k) w0 w' → (∀ x, v'.ownBlock = some x → v.ownBlock = some x ∨ w0.heap.size ≤ x) → wpList Tryz.prog ops Q rest (a.put o.dst v') w') :
    wpList Tryz.prog ops Q (o :: rest) a w0 := by
  have fin : ∀ v' w', w'.ownsRow base e 5 v' (n + l.length) (flat xs ++ flat l) → w0.grownBy w' v.ownBlock → (v'.ownBlock = v.ownBlock ∨ v'.ownBlock = some w0.heap.size) → wpList Tryz.prog ops Q rest (a.put o.dst v') w' := by
    intro v' w' ho' hg' hv'
    refine h v' w' (by rw [flat_app]; exact ho') (below_own hb hbase hown hg') ⟨hg'.os, hg'.tape, hg'.output, hg'.size, fun k hk hS => hg'.block k hk (fun e => hS e.symm)⟩ ?_
    intro x hx
    rcases hv' with h | h
    · exact .inl (h ▸ hx)
    · rw [h] at hx; simp at hx; omega
  rcases hu with ⟨rfl, ad, cap, rfl, hn⟩ | ⟨b, off, cap, rfl, hcap, hlt, hc⟩
  · rcases ad with _ | ad
    · obtain rfl := hn rfl
      refine wpList_append_own_none hgd s x t ho base e i 5 ht hi v n (flat xs) hs hown hx ?_
      exact fin v w0 (by simpa [flat] using hown) (World.grownBy.refl w0 _) (.inl rfl)
    · refine wpList_append_own_at _ hgd s x t ho base e i z 5 40 ht hi hz hsize hby hzs (by decide) v n (flat xs) hs hown ad 0 cap [] hx rfl (by intro j y hj; simp at hj) (by intro y hy; simp at hy) (by unfold maxLen; simp at h63; omega) (by simp at h63; omega) hbase ?_
      intro v' w' ho' hg' _ hv'
      exact fin v' w' (by simpa [flat] using ho') hg' hv'
  · refine wpList_append_own_at _ hgd s x t ho base e i z 5 40 ht hi hz hsize hby hzs (by decide) v n (flat xs) hs hown ⟨b, off, none⟩ l.length cap (flat l) hx (flat_length l) (flat_at hc) (flat_one l) (by unfold maxLen; omega) (by omega) hbase ?_
    intro v' w' ho' hg' _ hv'
    exact fin v' w' ho' hg' hv'

theorem own_empty (w : World) (e : TypeId) (s : Nat) : (w.alloc (.cells #[] e)).ownsRow w.heap.size e s (.slice (some ⟨w.heap.size, 0, none⟩) 0 0) 0 [] :=
  ⟨by simp, .inr ⟨w.heap.size, 0, #[], rfl, Nat.le_refl _, heap_alloc_new w _, Nat.le_refl _, by unfold maxLen; omega, by simp, by simp⟩⟩
theorem RM.out' {w : World} {v : Value} {l : List Mk} {n : Nat} (h : RM w v l) (hn : l.length = n) (h0 : 0 < n) : ∃ b o c, v = .slice (some ⟨b, o, none⟩) n c ∧ n ≤ c := by
  obtain ⟨p, c, rfl, h1⟩ := h.out
  obtain ⟨b, o, rfl, hc, _⟩ := h1 (by omega)
  subst hn
  exact ⟨b, o, c, rfl, hc⟩
theorem RM.from {w : World} {l : List Mk} {b o n c G : Nat} (h : RM w (.slice (some ⟨b, o, none⟩) n c) l) (hn : l.length = n) (hG : G < n) : RM w (.slice (some ⟨b, o + G * 5, none⟩) (n - G) (c - G)) (l.drop G) := by
  subst hn
  rcases h with ⟨rfl, _⟩ | ⟨b', off, cap, e, hcap, hb, hc⟩
  · simp at hG
  · injection e with e1 e2 e3
    injection e1 with e1
    injection e1 with e4 e5
    subst e3 e4 e5
    refine .inr ⟨b, o + G * 5, c - G, by simp, by simp; omega, hb, fun i hi => ?_⟩
    have hi' : G + i < l.length := by simp at hi; omega
    have := hc (G + i) hi'
    have e : o + G * 5 + i * 5 = o + (G + i) * 5 := by omega
    rw [e]
    have e2 : (l.drop G).getD i default = l.getD (G + i) default := by simp [List.getD, List.getElem?_drop]
    rw [e2]
    exact this
end Go.Proofs.YtohodbpjcbjifaaGreatDoor
