/- config.parser.node, whole; what a line of layer 25 says; config.parser.line. -/
import Derived.Test.YtophilmjfdhhaaaGreatDoorFt
namespace Go.Proofs.YtophilmjfdhhaaaGreatDoor
open Go Go.RowKit Go.Shelf Go.Sort
set_option linter.unusedVariables false
set_option linter.unusedSimpArgs false
set_option maxRecDepth 100000
set_option maxHeartbeats 4000000

theorem node_c (t : Tr) (ws : List (List UInt8)) (n : Nat) (v : Value) (B P : Nat) (f : Bool) (W : World) (E : Env W) (hp : PS W B P t f) (hw : Wl t.items) (hr : RS W v ws) (hwl : ws.length ≤ 16777216) (hwb : ∀ x ∈ ws, x.length ≤ 16777216) (hn : n ≤ 16777216) (hl : t.items.length ≤ 1000000) (hit5 : ∀ x ∈ t.items, itR x = true) (hpr : ∀ x ∈ t.items, x.pr.length ≤ 16777216) :
    Calls Tryz.prog 59 #[.pointer (some ⟨P, 0, none⟩), v, .int .i64 n] W (NodeP t ws n B P f W) := by
  by_cases hbad : n % 2 = 1 ∨ depS t.items ((t.items.length : Int) - 1) < n / 2 ∨ ws.length < 2 ∨ nameS (ws.getD 0 []) = false
  · refine (node_bad t ws n v B P f W hp hw hr hwl hwb hn hl hbad).mono ?_
    rintro e w' ⟨rfl, hb⟩
    exact NodeP.bad (by unfold nodeI; exact if_pos hbad) (by have := hp.base; have := hp.lt; omega) hb
  · have h1 : ¬ n % 2 = 1 := fun h => hbad (.inl h)
    have h2 : ¬ depS t.items ((t.items.length : Int) - 1) < n / 2 := fun h => hbad (.inr (.inl h))
    have h3 : ¬ ws.length < 2 := fun h => hbad (.inr (.inr (.inl h)))
    have h4 : ¬ nameS (ws.getD 0 []) = false := fun h => hbad (.inr (.inr (.inr h)))
    exact node_tail t ws n v B P f W E hp hw hr hwl hwb hn hl hit5 hpr (by omega) h2 (by omega) (by simpa using h4)
theorem PS.flag {w : World} {B P : Nat} {t : Tr} {f : Bool} (h : PS w B P t f) (g : Bool) : PS (w.setCell ⟨P, 2, none⟩ (.bool g)) B P t g := by
  obtain ⟨v1, v2, cs, h1, h2, h3, h4, h5, h6⟩ := h.out
  have MV : ∀ k, ¬ k = P → (w.setCell ⟨P, 2, none⟩ (.bool g)).heap[k]? = w.heap[k]? := fun k hk => blk_set_other hk _ _
  exact ⟨⟨v1, v2, cs, blk_set h1 2 _, ownsRow_setCell_other h2 (a := ⟨P, 2, none⟩) h6 _, h3.move (by simp) (fun k _ hn => MV k (fun e => hn (.inr (Nat.le_of_eq e)))) (fun k _ hn => hn), h4.of_block (by simp) (fun k hk => MV k (fun e => (h5 k hk).1 (.inr (Nat.le_of_eq e)))), fun k hk => ⟨(h5 k hk).1, by simpa using (h5 k hk).2⟩, h6⟩, h.base⟩
theorem PS.setSlack {w : World} {B P : Nat} {t : Tr} {f : Bool} (h : PS w B P t f) {v : Value} {l : List Int} (hv : RI w v l) (hn : ∀ k, v.ownBlock = some k → k < w.heap.size ∧ ∀ v1 cs, w.heap[P]? = some (.cells cs 68) → cs[0]? = some v1 → ¬ (v1.ownBlock = some k ∨ k ≤ P)) : PS (w.setCell ⟨P, 1, none⟩ v) B P ⟨t.items, l⟩ f := by
  obtain ⟨v1, v2, cs, h1, h2, h3, h4, h5, h6⟩ := h.out
  have MV : ∀ k, ¬ k = P → (w.setCell ⟨P, 1, none⟩ v).heap[k]? = w.heap[k]? := fun k hk => blk_set_other hk _ _
  have hn' : ∀ k, v.ownBlock = some k → ¬ (v1.ownBlock = some k ∨ k ≤ P) ∧ k < w.heap.size := fun k hk => ⟨(hn k hk).2 v1 _ h1 rfl, (hn k hk).1⟩
  exact ⟨⟨v1, v, cs, blk_set h1 1 _, ownsRow_setCell_other h2 (a := ⟨P, 1, none⟩) h6 _, h3.move (by simp) (fun k _ hn => MV k (fun e => hn (.inr (Nat.le_of_eq e)))) (fun k _ hn => hn), hv.of_block (by simp) (fun k hk => MV k (fun e => (hn' k hk).1 (.inr (Nat.le_of_eq e)))), fun k hk => ⟨(hn' k hk).1, by simpa using (hn' k hk).2⟩, h6⟩, h.base⟩
/-- What a line says. -/
def lineS (t : Tr) (f : Bool) (s : List UInt8) : Tr × Int :=
  if (splitC 32 [] (lead s)).getD 0 [] = wSlack then
    match numsS ((splitC 32 [] (lead s)).drop 1) with
    | none => (t, 250)
    | some l => if f = false ∨ (lead s).length < s.length then (t, 250) else if prOk l = false then (t, 2) else if 16 < l.length then (t, 30) else (⟨t.items, l⟩, 0)
  else nodeS t (splitC 32 [] (lead s)) (s.length - (lead s).length)
def LineP (t : Tr) (s : List UInt8) (B P : Nat) (f : Bool) (W : World) (e : Ending) (w' : World) : Prop :=
  e = .returned (errOf (lineS t f s).2) ∧ Below B W w' ∧ ((lineS t f s).2 = 0 → PS w' B P (lineS t f s).1 false)
theorem lead_len (s : List UInt8) : (lead s).length ≤ s.length := by
  unfold lead
  induction s with
  | nil => simp
  | cons c r ih => rw [List.dropWhile_cons]; split <;> simp <;> omega
theorem splitC_mem (c : UInt8) : ∀ (s cur : List UInt8), ∀ x ∈ splitC c cur s, x.length ≤ cur.length + s.length := by
  intro s
  induction s with
  | nil => intro cur x hx; simp [splitC] at hx; subst hx; simp
  | cons a r ih =>
    intro cur x hx
    unfold splitC at hx
    split at hx
    · rcases List.mem_cons.1 hx with rfl | hx
      · simp
      · have := ih [] x hx; simp at this ⊢; omega
    · have := ih _ x hx; simp at this ⊢; omega
theorem splitC_pos (c : UInt8) : ∀ (s cur : List UInt8), 0 < (splitC c cur s).length := by
  intro s
  induction s with
  | nil => intro cur; simp [splitC]
  | cons a r ih => intro cur; unfold splitC; split <;> simp [ih]
/-- strings.Split at a byte, its pieces in a new block. -/
theorem ssplit_at (l : List UInt8) (c : UInt8) (W : World) (E : Env W) (hs : l.length < 4294967281) :
    Calls Tryz.prog 23 #[str l, .string ⟨#[c]⟩] W fun e w' => e = .returned (.slice (some ⟨W.heap.size, 0, none⟩) (splitC c [] l).length (splitC c [] l).length) ∧ RS w' (.slice (some ⟨W.heap.size, 0, none⟩) (splitC c [] l).length (splitC c [] l).length) (splitC c [] l) ∧ Below W.heap.size W w' ∧ W.heap.size < w'.heap.size := by
  obtain ⟨m, hm⟩ := E.maxlen
  refine (Tryz.strings_Split ⟨l.toArray⟩ ⟨#[c]⟩ m W (by rw [sz]; exact hs) hm (Nat.le_refl 1)).mono ?_
  rintro e w' ⟨rfl, rfl⟩
  have hsp := split_c c (⟨l.toArray⟩ : ByteArray).size ⟨l.toArray⟩ (Nat.le_refl _)
  have hlen := Lib.splitB_all ⟨#[c]⟩ (Nat.le_refl 1) 0 _ (⟨l.toArray⟩ : ByteArray) rfl
  have hl : (splitC c [] l).length = Lib.countB ⟨l.toArray⟩ ⟨#[c]⟩ + 1 := by rw [← hsp, List.length_map, hlen]
  have hcs : ((Lib.splitB ⟨#[c]⟩ 0 (Lib.countB ⟨l.toArray⟩ ⟨#[c]⟩) ⟨l.toArray⟩).map Value.string) = (splitC c [] l).map str := by
    rw [← hsp, List.map_map]
    rfl
  rw [hcs, ← hl]
  refine ⟨rfl, .inr ⟨W.heap.size, 0, (splitC c [] l).length, by rw [List.length_map], by rw [List.length_map]; exact Nat.le_refl _, by simp, fun i hi => ?_⟩, (Below.refl _ _).alloc (Nat.le_refl _) _, by simp⟩
  have hi' : i < (splitC c [] l).length := by simpa using hi
  rw [Nat.zero_add]
  exact cell_new1 W _ _ i _ (by simp [List.getD, hi'])
end Go.Proofs.YtophilmjfdhhaaaGreatDoor
