/- Rows of marks that are read, appended to a row of the call's own; slices.Clone, slices.IndexFunc at marks. -/
import Derived.Test.YtpaffemjdffoiaaQg
import Derived.Maps.AppendAt
import Derived.Laws.AppendOwnNone
import Derived.WalkSpells
import Derived.Lib.SliceRun
namespace Go.Proofs.Ytpaffemjdffoiaa
open Go Go.RowKit Go.ChangeShapes Go.WideShapes
set_option linter.unusedVariables false
set_option maxRecDepth 100000
set_option maxHeartbeats 800000

theorem flat_at {w : World} {b off : Nat} {l : List Mk} (hc : ∀ i, i < l.length → At5 w b (off + i * 5) (l.getD i default)) : ∀ j u, (flat l)[j]? = some u → w.cell? ((⟨b, off, none⟩ : Addr).add j) = some u := by
  intro j u hj
  have hp : (⟨b, off, none⟩ : Addr).add j = ⟨b, off + j, none⟩ := by unfold Addr.add; split <;> simp_all
  rw [hp]
  have hjl : j < l.length * 5 := by
    rcases Nat.lt_or_ge j (flat l).length with h | h
    · rw [flat_length] at h; exact h
    · rw [List.getElem?_eq_none h] at hj; cases hj
  have hi : j / 5 < l.length := by omega
  have hr : j % 5 < 5 := Nat.mod_lt _ (by decide)
  have e : j = j / 5 * 5 + j % 5 := by omega
  have hf := flat_get l (j / 5) (j % 5) hi hr
  rw [← e, hj] at hf
  have a5 := hc _ hi
  have key : w.cell? ⟨b, off + j / 5 * 5 + j % 5, none⟩ = some u := by
    generalize l.getD (j / 5) default = m at *
    obtain ⟨a0, a1, a2, a3, a4⟩ := a5
    generalize j / 5 * 5 = q at *
    generalize j % 5 = c at *
    have : c = 0 ∨ c = 1 ∨ c = 2 ∨ c = 3 ∨ c = 4 := by omega
    rcases this with rfl | rfl | rfl | rfl | rfl <;> simp [Mk.cells] at hf <;> subst hf <;> assumption
  rw [Nat.add_assoc, ← e] at key
  exact key
theorem flat_one (l : List Mk) : ∀ u ∈ flat l, u.oneCell' = true := by
  intro u hu
  obtain ⟨m, _, hm⟩ := List.mem_flatMap.1 hu
  exact cells_one m u hm
/-- 'append(s, l...)', l a slice of marks that is read, onto a row of the call's own; it tells where the new row lies. -/
theorem appendRM {ops : Array Oper} {rest : List Oper} {o : Oper} {a : Act} {Q : Exit → Act → World → Prop} {W w0 : World} (hgd : o.guard = none) (s x : Operand) (t : TypeId)
    (ho : o.op = .call { callee := .builtin .append, args := #[s, x], argTypes := #[t, t] })
    (base : Nat) (e : TypeId) (i : TypeInfo) (z : Value) (ht : Try.prog.underlying t = some (.slice e)) (hi : Try.prog.info? e = some i) (hz : i.zero = some z)
    (hsize : i.size = 5) (hby : i.bytes = 40) (hzs : z.cells.size = 5)
    (v : Value) (n : Nat) (xs : List Mk) (hs : a.eval s = v) (hown : w0.ownsRow base e 5 v n (flat xs))
    (u : Value) (l : List Mk) (hx : a.eval x = u) (hu : RM w0 u l)
    (h63 : n + l.length ≤ 3518437208883) (hbase : base ≤ w0.heap.size) (hb : Below base W w0)
    (h : ∀ v' w', w'.ownsRow base e 5 v' (n + l.length) (flat (xs ++ l)) → Below base W w' → Ch (fun k => v.ownBlock = some k) w0 w' → (∀ x, v'.ownBlock = some x → v.ownBlock = some x ∨ w0.heap.size ≤ x) → wpList Try.prog ops Q rest (a.put o.dst v') w') :
    wpList Try.prog ops Q (o :: rest) a w0 := by
  have fin : ∀ v' w', w'.ownsRow base e 5 v' (n + l.length) (flat xs ++ flat l) → w0.grownBy w' v.ownBlock → (v'.ownBlock = v.ownBlock ∨ v'.ownBlock = some w0.heap.size) → wpList Try.prog ops Q rest (a.put o.dst v') w' := by
    intro v' w' ho' hg' hv'
    refine h v' w' (by rw [flat_app]; exact ho') (below_own hb hbase hown hg') ⟨hg'.os, hg'.tape, hg'.output, hg'.size, fun k hk hS => hg'.block k hk (fun e => hS e.symm)⟩ ?_
    intro x hx
    rcases hv' with h | h
    · exact .inl (h ▸ hx)
    · rw [h] at hx; simp at hx; omega
  rcases hu with ⟨rfl, ad, cap, rfl, hn⟩ | ⟨b, off, cap, rfl, hcap, hlt, hc⟩
  · rcases ad with _ | ad
    · obtain rfl := hn rfl
      refine wpList_append_own_none hgd s x t ho base e i 5 ht hi v n (flat xs) hs hown hx ?_
      exact fin v w0 (by simpa [flat] using hown) (World.grownBy.refl w0 _) (.inl rfl)
    · refine wpList_append_own_at _ hgd s x t ho base e i z 5 40 ht hi hz hsize hby hzs (by decide) v n (flat xs) hs hown ad 0 cap [] hx rfl (by intro j y hj; simp at hj) (by intro y hy; simp at hy) (by unfold maxLen; simp at h63; omega) (by simp at h63; omega) hbase ?_
      intro v' w' ho' hg' _ hv'
      exact fin v' w' (by simpa [flat] using ho') hg' hv'
  · refine wpList_append_own_at _ hgd s x t ho base e i z 5 40 ht hi hz hsize hby hzs (by decide) v n (flat xs) hs hown ⟨b, off, none⟩ l.length cap (flat l) hx (flat_length l) (flat_at hc) (flat_one l) (by unfold maxLen; omega) (by omega) hbase ?_
    intro v' w' ho' hg' _ hv'
    exact fin v' w' ho' hg' hv'

theorem own_empty (w : World) (e : TypeId) (s : Nat) : (w.alloc (.cells #[] e)).ownsRow w.heap.size e s (.slice (some ⟨w.heap.size, 0, none⟩) 0 0) 0 [] :=
  ⟨by simp, .inr ⟨w.heap.size, 0, #[], rfl, Nat.le_refl _, heap_alloc_new w _, Nat.le_refl _, by unfold maxLen; omega, by simp, by simp⟩⟩

theorem clone_t (W : World) (v : Value) (l : List Mk) (hv : RM W v l) (hl : l.length ≤ 3518437208780) :
    Calls Try.prog 21 #[v] W fun e w' => ∃ v', e = .returned v' ∧ w'.ownsRow W.heap.size 32 5 v' l.length (flat l) ∧ Below W.heap.size W w' := by
  obtain ⟨i0, hi, hz0, hz1, hz2⟩ := info_of Try.infoMark
  by_cases h0 : v = .slice none 0 0
  · subst h0
    obtain rfl : l = [] := by
      rcases hv with ⟨h, _⟩ | ⟨_, _, _, h, _⟩
      · exact h
      · cases h
    have en := fun w => Lib.run_eql_slice_nil (P := Try.prog) w 29 32 none 0 0 0 0 Try.underlying29
    go_enter Try.func21, Try.ntmps21
    go_wp2
    go_ret
    exact ⟨_, rfl, World.ownsRow_nil _ _ _ _, Below.refl _ _⟩
  · obtain ⟨ad, n, c, rfl⟩ : ∃ ad n c, v = .slice (some ad) n c := by
      rcases hv with ⟨rfl, a, c, rfl, h⟩ | ⟨b, o, c, rfl, _⟩
      · cases a with
        | none => obtain rfl := h rfl; exact absurd rfl h0
        | some a => exact ⟨a, 0, c, rfl⟩
      · exact ⟨_, _, _, rfl⟩
    have HV := Lib.hid (show RM (W.alloc (.cells #[] 32)) _ l from hv.below ((Below.refl _ _).alloc (Nat.le_refl _) _))
    clear hv h0
    have en := fun w => Lib.run_eql_slice_nil (P := Try.prog) w 29 32 (some ad) n c 0 0 Try.underlying29
    go_enter Try.func21, Try.ntmps21
    go_wp2_with (at_builtin; go_must (refine appendRM (W := W) rfl _ _ 29 rfl W.heap.size 32 i0 _ Try.underlying29 hi hz0 hz1 hz2 rfl _ 0 [] rfl (own_empty _ _ _) _ l rfl HV.out (by omega) (by simp) ((Below.refl _ _).alloc (Nat.le_refl _) _) ?_); intro v' w3 hown3 hbe3 hch3 hvo)
    go_ret
    exact ⟨_, rfl, by simpa using hown3, hbe3⟩

/-- The closure of trace.Of: a mark of another node? -/
theorem del_t (W : World) (m : Mk) (b : Nat) (node : Int) (hb : b < W.heap.size) (hc : W.cell? ⟨b, 0, none⟩ = some (.int .i64 node)) :
    Calls Try.prog 22 #[m.val, .pointer (some ⟨b, 0, none⟩)] W fun e w' => e = .returned (.bool (m.h != node)) ∧ Below W.heap.size W w' := by
  have hc' : (W.alloc (.cells #[.int .i64 m.t, .int .i64 m.k, .int .i64 m.h, .int .i64 m.j, .int .i64 m.n] 32)).cell? ⟨b, 0, none⟩ = some (.int .i64 node) := (World.cell?_of_block (Below.heap_alloc _ _ _ hb)).trans hc
  go_enter Try.func22, Try.ntmps22
  simp only [Mk.val]
  go_wp2_with fail
  go_ret
  exact ⟨rfl, (Below.refl _ _).alloc (Nat.le_refl _) _⟩
end Go.Proofs.Ytpaffemjdffoiaa
