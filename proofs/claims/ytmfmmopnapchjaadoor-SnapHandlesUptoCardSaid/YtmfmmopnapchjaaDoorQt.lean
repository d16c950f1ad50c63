/- A region that draws its order: its head reads, or calls what only draws; its tail (a store, an append ..) comes up in one order alone, behind all of the head. One walk serves all orders. Over any program. -/
import Derived.Deep.Quiet
import Derived.StillTail
namespace Go.Proofs.YtmfmmopnapchjaaDoor
open Go
section
variable {P : Program} {ops : Array Oper} {C : World → Prop} {n : Nat}

/-- The head in whatever order, f operations of it; then L. -/
def anyHead (P : Program) (ops : Array Oper) (C : World → Prop) (n : Nat) (L : Array Bool → Act → Prop) : Nat → Array Bool → Act → Prop
  | 0, m, a => L m a
  | f + 1, m, a => Region.ready .any ops m ≠ [] ∧ ∀ i, i ∈ Region.ready .any ops m → i < n ∧ qOp P ops C i (anyHead P ops C n L f (m.setIfInBounds i true)) a

theorem any_of_anyHead {g : Nat} {L : Array Bool → Act → Prop} {Q : Exit → Act → World → Prop} (hL : ∀ m a w, C w → L m a → wpAny P .any ops Q g m a w) (f : Nat) :
    ∀ (m : Array Bool) (a : Act) (w : World), C w → anyHead P ops C n L f m a → wpAny P .any ops Q (f + g) m a w := by
  induction f with
  | zero => intro m a w hw h; rw [Nat.zero_add]; exact hL m a w hw h
  | succ f ih =>
    intro m a w hw h
    rw [Nat.succ_add]
    exact ⟨fun e => absurd e h.1, fun i hi => wpOp_of_qOp hw (fun a' w' hw' k => ih _ a' w' hw' k) (h.2 i hi).2⟩

/-- An operation of the head that may come up may be taken first. -/
theorem anyHead_first {i : Nat} {o : Oper} {v : Value} {L : Array Bool → Act → Prop} (ho : ops[i]? = some o) (hno : ∀ (j : Nat) (o : Oper) cs b, ops[j]? = some o → o.op ≠ .select cs b)
    (hs : Region.sinkB .any ops n = true) (hc : Region.chainB .any ops n = true) (hn : n < ops.size) (hin : i < n)
    (hend : ∀ m a, L m a → ∀ j ∈ Region.ready .any ops m, n ≤ j) (f : Nat) :
    ∀ (m : Array Bool) (a : Act), HeadInv .any ops n m →
      (∀ j oj, ops[j]? = some oj → j ≠ i → m.getD j true = false → (∀ e ∈ oj.after, Region.binds .any e = true → e.on ≠ i) → o.apart ops oj = true) →
      i ∈ Region.ready .any ops m → YieldsIn P ops C o v a → anyHead P ops C n L f (m.setIfInBounds i true) (a.put o.dst v) → anyHead P ops C n L (f + 1) m a := by
  induction f with
  | zero =>
    intro m a inv _ hr hy H
    refine ⟨List.ne_nil_of_mem hr, fun j hj => ?_⟩
    have hjn : j < n := Nat.lt_of_not_le fun k => tail_waits hs hc hn inv _ i rfl hin (mem_ready.1 hr).1 j k hj
    refine ⟨hjn, ?_⟩
    by_cases e : j = i
    · subst e; exact hy.qOp ho H
    · exact absurd (hend _ _ H j (ready_mono hj e)) (by omega)
  | succ f ih =>
    intro m a inv hfree hr hy H
    refine ⟨List.ne_nil_of_mem hr, fun j hj => ?_⟩
    have hjn : j < n := Nat.lt_of_not_le fun k => tail_waits hs hc hn inv _ i rfl hin (mem_ready.1 hr).1 j k hj
    refine ⟨hjn, ?_⟩
    by_cases e : j = i
    · subst e; exact hy.qOp ho H
    · obtain ⟨hjm, oj, hoj, hall⟩ := mem_ready.1 hj
      have nowait : ∀ x ∈ oj.after, Region.binds .any x = true → x.on ≠ i := by
        intro x hx hb hxi
        have h1 := hall x hx hb
        rw [hxi, getD_both (mem_ready.1 hr).1] at h1
        cases h1
      have st := qOp_put hoj (hfree j oj hoj e hjm nowait) (fun cs b => hno i o cs b ho) (fun cs b => hno j oj cs b hoj) hy (H.2 j (ready_mono hj e)).2
      refine qOp_mono (fun a' h => ih _ a' (inv.set hj hjn) ?_ (ready_mono hr (Ne.symm e)) h.1 (by rw [Array.setIfInBounds_comm _ _ e]; exact h.2)) st
      intro k ok hk hki hkm hw
      refine hfree k ok hk hki ?_ hw
      by_cases jk : j = k
      · subst jk; exact hjm
      · rwa [getD_set_ne true jk] at hkm

theorem anyHead_lex {g : Nat} {Lq : Act → Prop} (hno : Region.noSelect ops = true) (hs : Region.sinkB .any ops n = true) (hc : Region.chainB .any ops n = true) (hn : n < ops.size) (l : List Oper) :
    ∀ (k : Nat) (m : Array Bool) (a : Act), (∀ j, j < l.length → l[j]? = ops[k + j]?) → k + l.length = n → HeadInv .any ops n m → Region.lexHead .any ops g l.length k m = true → wpQuiet P ops C Lq l a →
    anyHead P ops C n (fun m' a' => Region.seqB .any ops g n m' = true ∧ Lq a') l.length m a := by
  induction l with
  | nil =>
    intro k m a _ hk _ hB h
    obtain rfl : k = n := hk
    exact ⟨hB, h⟩
  | cons o l ih =>
    intro k m a hl hk inv hB h
    simp only [List.length_cons] at hk hl
    have h0 : ops[k]? = some o := (hl 0 (Nat.succ_pos _)).symm
    simp only [List.length_cons, Region.lexHead, Bool.and_eq_true, List.contains_iff_mem] at hB
    obtain ⟨⟨hr, hf⟩, hB'⟩ := hB
    have hq : qOp P ops C k (wpQuiet P ops C Lq l) a := by unfold qOp; rw [h0]; exact h
    obtain ⟨v, hy, hK⟩ := yieldsIn_of_qOp h0 hq
    refine anyHead_first h0 (Region.noSelect_spec hno) hs hc hn (by omega) (fun _ _ hL => seqB_ready hL.1) l.length m a inv (Region.free_spec h0 hf) hr hy ?_
    refine ih (k + 1) _ _ (fun j hj => ?_) (by omega) (inv.set hr (by omega)) hB' hK
    have := hl (j + 1) (by omega)
    rwa [List.getElem?_cons_succ, show k + (j + 1) = k + 1 + j by omega] at this

/-- A region with such a tail: the head is walked once, in the text's order; the tail in every world of the class. -/
theorem region_quiet_tail {id : Nat} {Q : Exit → Act → World → Prop} {a : Act} {w : World} {l : List Oper} (n : Nat) (hm : P.follows .mixedOrders = true) (hB : Region.lexTailB .any l.toArray n = true)
    (hC : C { w with drawn := w.drawn + 1 }) (h : wpQuiet P l.toArray C (fun a' => ∀ w', C w' → wpList P l.toArray Q (l.drop n) a' w') (l.take n) a) : (Code.region id l.toArray true).wp P Q a w := by
  simp only [Region.lexTailB, Bool.and_eq_true, decide_eq_true_eq] at hB
  obtain ⟨⟨⟨⟨hno, hn⟩, hs⟩, hc⟩, hlex⟩ := hB
  have hsz : l.toArray.size = l.length := by simp
  have htl : (l.take n).length = n := by simp; omega
  have hdl : (l.drop n).length = l.toArray.size - n := by simp
  have inv0 : HeadInv .any l.toArray n (Array.replicate l.toArray.size false) :=
    ⟨by simp, fun j oj _ hl => (by rw [getD_replicate_false] at hl; cases hl), fun t _ ht => getD_in (by simpa using ht) (getD_replicate_false _ _)⟩
  have H := anyHead_lex (g := l.toArray.size - n) hno hs hc hn (l.take n) 0 _ a (fun j hj => by rw [htl] at hj; simp [hj]) (by omega) inv0 (by rw [htl]; exact hlex) h
  refine wp_region_any hm ?_
  have T := any_of_anyHead (Q := Q) (g := l.toArray.size - n) (fun m a' w' hw' hL => by
    have := wpAny_of_seq (md := .any) (Q' := Q) (l.drop n) n m a' w' (fun j => by simp [List.getElem?_drop]) (by rw [hdl]; exact hL.1) (hL.2 w' hw')
    rwa [hdl] at this) _ _ a _ hC H
  rwa [htl, show n + (l.toArray.size - n) = l.toArray.size by omega] at T

/-- .. the class being 'some draws later'. -/
theorem region_drawn_tail {id : Nat} {Q : Exit → Act → World → Prop} {a : Act} {w : World} {l : List Oper} (n : Nat) (hm : P.follows .mixedOrders = true) (hB : Region.lexTailB .any l.toArray n = true)
    (h : wpQuiet P l.toArray (fun w' => ∃ k, w' = w.drewN k) (fun a' => ∀ w', (∃ k, w' = w.drewN k) → wpList P l.toArray Q (l.drop n) a' w') (l.take n) a) : (Code.region id l.toArray true).wp P Q a w :=
  region_quiet_tail (C := fun w' => ∃ k, w' = w.drewN k) n hm hB ⟨1, rfl⟩ h
end
end Go.Proofs.YtmfmmopnapchjaaDoor
