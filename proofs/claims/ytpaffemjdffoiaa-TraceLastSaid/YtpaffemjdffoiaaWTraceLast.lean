/- The statement TraceLast, walked. -/
import Derived.Test.YtpaffemjdffoiaaTd
import Derived.Test.YtpaffemjdffoiaaRI
import Derived.Maps.AppendAt
namespace Go.Proofs.Ytpaffemjdffoiaa
open Go Go.RowKit Go.ChangeShapes Go.WideShapes
set_option linter.unusedVariables false
set_option maxRecDepth 100000
set_option maxHeartbeats 800000

/-- A number as one without a sign, its rest. -/
theorem urest (a : Int) (n : Nat) (h : 0 < n) (hn : n ≤ 1000000) : ∃ r : Nat, r < n ∧ wrap64 ((IntKind.u64.wrap a).tmod n) = (r : Int) := by
  have h0 : 0 ≤ IntKind.u64.wrap a := by simp [IntKind.wrap, IntKind.signed, IntKind.bits]; omega
  have e : (IntKind.u64.wrap a).tmod n = (IntKind.u64.wrap a) % n := Int.tmod_eq_emod_of_nonneg h0
  rw [e]
  have h1 : 0 ≤ (IntKind.u64.wrap a) % (n : Int) := Int.emod_nonneg _ (by omega)
  have h2 : (IntKind.u64.wrap a) % (n : Int) < n := Int.emod_lt_of_pos _ (by omega)
  refine ⟨((IntKind.u64.wrap a) % (n : Int)).toNat, by omega, ?_⟩
  rw [Int.toNat_of_nonneg h1]
  generalize (IntKind.u64.wrap a) % (n : Int) = z at *
  unfold wrap64
  omega

/-- The tick of the last of k marks. -/
def lastT (k : Nat) : Int := if k = 0 then 0 else ((k - 1) / 2 : Nat)
theorem own_ch {w w' : World} {S : Nat → Prop} {B : Nat} {e : TypeId} {s : Nat} {v : Value} {n : Nat} {xs : List Value} (h : w.ownsRow B e s v n xs) (c : Ch S w w') (hv : ∀ k, v.ownBlock = some k → ¬ S k) : w'.ownsRow B e s v n xs := by
  obtain ⟨h1, h2⟩ := h
  refine ⟨h1, ?_⟩
  rcases h2 with h | ⟨g, cap, cur, rfl, hg, hh, r⟩
  · exact .inl h
  · exact .inr ⟨g, cap, cur, rfl, hg, (c.block g (Array.getElem?_eq_some_iff.1 hh).1 (hv g rfl)).trans hh, r⟩

/-- 'append(s, m)' of a mark, onto a row of the call's own; it tells where the new row lies. -/
theorem append5b {ops : Array Oper} {rest : List Oper} {o : Oper} {a : Act} {Q : Exit → Act → World → Prop} {W w0 : World} (hgd : o.guard = none) (s x : Operand) (t : TypeId)
    (ho : o.op = .call { callee := .builtin .append, args := #[s, x], argTypes := #[t, t] })
    (base : Nat) (e : TypeId) (i : TypeInfo) (z : Value) (ht : Try.prog.underlying t = some (.slice e)) (hi : Try.prog.info? e = some i) (hz : i.zero = some z)
    (hsize : i.size = 5) (hby : i.bytes = 40) (hzs : z.cells.size = 5)
    (v : Value) (n : Nat) (l : List Mk) (hs : a.eval s = v) (hown : w0.ownsRow base e 5 v n (flat l))
    (c : Nat) (m : Mk) (bx : Nat) (hx : a.eval x = .slice (some ⟨bx, 0, none⟩) 1 c) (hbx : bx = w0.heap.size)
    (h63 : n + 1 ≤ 3000000000000) (hbase : base ≤ w0.heap.size) (hb : Below base W w0)
    (h : ∀ v' w', w'.ownsRow base e 5 v' (n + 1) (flat (l ++ [m])) → Below base W w' → Ch (fun k => v.ownBlock = some k) w0 w' → (∀ x, v'.ownBlock = some x → v.ownBlock = some x ∨ w0.heap.size ≤ x) → wpList Try.prog ops Q rest (a.put o.dst v') w') :
    wpList Try.prog ops Q (o :: rest) a (w0.alloc (.cells #[.int .i64 m.t, .int .i64 m.k, .int .i64 m.h, .int .i64 m.j, .int .i64 m.n] e)) := by
  subst hbx
  refine wpList_append_own_at _ hgd s x t ho base e i z 5 40 ht hi hz hsize hby hzs (by decide) v n (flat l) hs (hown.alloc _) ⟨w0.heap.size, 0, none⟩ 1 c m.cells hx rfl ?_ (cells_one m) (by unfold maxLen; omega) (by omega) (by simp; omega) ?_
  · intro j y hj
    have hp : (⟨w0.heap.size, 0, none⟩ : Addr).add j = ⟨w0.heap.size, j, none⟩ := by unfold Addr.add; split <;> simp_all
    rw [hp]
    exact cell_new w0 _ _ j y (by simpa [Mk.cells] using hj)
  · intro v' w' ho' hg' _ hv'
    refine h v' w' (by rw [flat_snoc]; exact ho') (below_own (hb.alloc hbase _) (by simp; omega) (hown.alloc _) hg') ?_ ?_
    · exact ⟨hg'.os, hg'.tape, hg'.output, by have := hg'.size; simp at this; omega, fun k hk hS => (hg'.block k (by simp; omega) (fun e => hS e.symm)).trans (Below.heap_alloc _ _ _ hk)⟩
    · intro x hx
      rcases hv' with h | h
      · exact .inl (h ▸ hx)
      · rw [h] at hx; simp at hx; omega
theorem own_lt {w : World} {B : Nat} {e : TypeId} {s : Nat} {v : Value} {n : Nat} {xs : List Value} (h : w.ownsRow B e s v n xs) : ∀ k, v.ownBlock = some k → k < w.heap.size := by
  intro k hk
  obtain ⟨h1, h2⟩ := h
  rcases h2 with ⟨rfl, _⟩ | ⟨g, cap, cur, rfl, hg, hh, r⟩
  · simp [Value.ownBlock] at hk
  · simp [Value.ownBlock] at hk
    subst hk
    exact (Array.getElem?_eq_some_iff.1 hh).1
/-- What an append leaves of the trace and of the mark's box. -/
theorem after_append {wr w3 : World} {t q : Nat} {gs : List Nat} {K : Nat} {go la : Int} {l : List Mk} {B : Nat} {e : TypeId} {v v' : Value} {n : Nat} {xs : List Value} (m : Mk) (ts : TS wr t q gs K go la l) (hown : wr.ownsRow B e 5 v n xs) (hdis : ∀ x, v.ownBlock = some x → ¬ tb t q gs x)
    (ch : Ch (fun k => v.ownBlock = some k) (wr.alloc (.cells #[.int .i64 m.t, .int .i64 m.k, .int .i64 m.h, .int .i64 m.j, .int .i64 m.n] 32)) w3) (hvo : ∀ x, v'.ownBlock = some x → v.ownBlock = some x ∨ (wr.alloc (.cells #[.int .i64 m.t, .int .i64 m.k, .int .i64 m.h, .int .i64 m.j, .int .i64 m.n] 32)).heap.size ≤ x) :
    At5 w3 wr.heap.size 0 m ∧ TS w3 t q gs K go la l ∧ (∀ x, v'.ownBlock = some x → ¬ tb t q gs x) := by
  have z := ch.size
  simp at z
  refine ⟨(At5_box wr m).of_block (ch.block _ (by simp) (fun h => by have := own_lt hown _ h; omega)), ts.of_block (by omega) (fun k hk => ?_), fun x hx hk => ?_⟩
  · have := ts.lt k hk
    exact (ch.block k (by simp; omega) (fun h => hdis k h hk)).trans (Below.heap_alloc _ _ _ this)
  · rcases hvo x hx with h | h
    · exact hdis x h hk
    · have := ts.lt x hk; simp at h; omega
theorem add_one (K k : Nat) (L : List Mk) (m : Mk) (hL : L.length = k) (hK : 1 ≤ K) : addAll K (((k - K : Nat) : Int), L.drop (k - K)) [m] = (((k + 1 - K : Nat) : Int), (L ++ [m]).drop (k + 1 - K)) := by
  simp only [addAll, List.foldl_cons, List.foldl_nil, addOne, List.length_drop, hL, List.drop_drop]
  by_cases h : K ≤ k
  · rw [if_pos (by omega), List.drop_append_of_le_length (by omega)]
    simp only [Prod.mk.injEq]
    refine ⟨by omega, ?_⟩
    congr 2
    omega
  · rw [if_neg (by omega), List.drop_append_of_le_length (by omega)]
    simp only [Prod.mk.injEq]
    refine ⟨by omega, ?_⟩
    congr 2
    omega

theorem RM.out' {w : World} {v : Value} {l : List Mk} {n : Nat} (h : RM w v l) (hn : l.length = n) (h0 : 0 < n) : ∃ b o c, v = .slice (some ⟨b, o, none⟩) n c ∧ n ≤ c := by
  obtain ⟨p, c, rfl, h1⟩ := h.out
  obtain ⟨b, o, rfl, hc, _⟩ := h1 (by omega)
  subst hn
  exact ⟨b, o, c, rfl, hc⟩
theorem RM.from {w : World} {l : List Mk} {b o n c G : Nat} (h : RM w (.slice (some ⟨b, o, none⟩) n c) l) (hn : l.length = n) (hG : G < n) : RM w (.slice (some ⟨b, o + G * 5, none⟩) (n - G) (c - G)) (l.drop G) := by
  subst hn
  rcases h with ⟨rfl, _⟩ | ⟨b', off, cap, e, hcap, hb, hc⟩
  · simp at hG
  · injection e with e1 e2 e3
    injection e1 with e1
    injection e1 with e4 e5
    subst e3 e4 e5
    refine .inr ⟨b, o + G * 5, c - G, by simp, by simp; omega, hb, fun i hi => ?_⟩
    have hi' : G + i < l.length := by simp at hi; omega
    have := hc (G + i) hi'
    have e : o + G * 5 + i * 5 = o + (G + i) * 5 := by omega
    rw [e]
    have e2 : (l.drop G).getD i default = l.getD (G + i) default := by simp [List.getD, List.getElem?_drop]
    rw [e2]
    exact this

/-- One mark laid into the trace of the law. -/
theorem add_t1 (w3 : World) (t q : Nat) (gs : List Nat) (K k : Nat) (la : Int) (L : List Mk) (m : Mk) (ts : TS w3 t q gs K ((k - K : Nat) : Int) la (L.drop (k - K))) (hL : L.length = k) (hk : k ≤ 200) (hm : Ok0 m) (hla : la ≤ m.t) :
    Calls Try.prog 6 #[.pointer (some ⟨t, 0, none⟩), .slice (some ⟨w3.heap.size, 0, none⟩) 1 1] (w3.alloc (.cells #[.int .i64 m.t, .int .i64 m.k, .int .i64 m.h, .int .i64 m.j, .int .i64 m.n] 32)) fun e w' => e = .returned .nilIface ∧ ∃ gs', TS w' t q gs' K ((k + 1 - K : Nat) : Int) m.t ((L ++ [m]).drop (k + 1 - K)) ∧ (∀ x ∈ gs', x ∈ gs ∨ w3.heap.size ≤ x) ∧ Ch (tb t q gs) w3 w' := by
  have ts4 := ts.below (w' := w3.alloc (.cells #[.int .i64 m.t, .int .i64 m.k, .int .i64 m.h, .int .i64 m.j, .int .i64 m.n] 32)) ((Below.refl _ _).alloc (Nat.le_refl _) _)
  have rm : RM (w3.alloc (.cells #[.int .i64 m.t, .int .i64 m.k, .int .i64 m.h, .int .i64 m.j, .int .i64 m.n] 32)) (.slice (some ⟨w3.heap.size, 0, none⟩) 1 1) [m] := by
    refine .inr ⟨w3.heap.size, 0, 1, rfl, Nat.le_refl 1, by simp, fun i hi => ?_⟩
    obtain rfl : i = 0 := by simp at hi; omega
    exact At5_box w3 m
  have e := add_one K k L m hL ts.k1
  refine (add_t _ t q gs K _ la _ [m] _ ts4 rm (Nat.le_of_ble_eq_true rfl) (fun x hx h => ?_) ⟨fun x hx => ?_, fun i hi => ?_⟩ ⟨by omega, by omega⟩).mono ?_
  · have := ts.lt x h
    simp [Value.ownBlock] at hx
    omega
  · simp at hx; subst hx; exact hm
  · obtain rfl : i = 0 := by simp at hi; omega
    exact hla
  · rintro e' w' ⟨rfl, gs', ts', hgs, ch⟩
    rw [e] at ts'
    refine ⟨rfl, gs', ts', fun x hx => (hgs x hx).elim .inl (fun h => .inr (by simp at h; omega)), ?_⟩
    exact ⟨ch.os, ch.tape, ch.output, by have := ch.size; simp at this; omega, fun i hi hs => (ch.block i (by simp; omega) hs).trans (Below.heap_alloc _ _ _ hi)⟩

theorem own_below {w w' : World} {B : Nat} {e : TypeId} {s : Nat} {v : Value} {n : Nat} {xs : List Value} (h : w.ownsRow B e s v n xs) (c : Below w.heap.size w w') : w'.ownsRow B e s v n xs :=
  own_ch (S := fun _ => False) h (Ch.of_below c _) (fun _ _ h => h)
theorem traceLast_walk0 (a : Int) (wa : -9223372036854775808 ≤ a ∧ a ≤ 9223372036854775807) (l : List Int) (v : Value) {W : World}
    (hrow : ∃ p c, v = .slice p l.length c ∧ ∀ i, i < l.length → ∃ b o, p = some ⟨b, o, none⟩ ∧ b < W.heap.size ∧ W.cell? ⟨b, o + i, none⟩ = some (.int .i64 (l.getD i 0))) (hlen : l.length ≤ 9000000000000000000) :
    Calls Try.prog 3 #[.int .i64 a, v] W fun e w' => e = .returned (.bool true) ∧ Below W.heap.size W w' := by
  obtain ⟨p, c, rfl, hr⟩ := hrow
  obtain ⟨r, hr50, hrest'⟩ := urest a 50 (by decide) (by decide)
  have hrest : wrap64 ((IntKind.u64.wrap a).tmod 50) = (r : Int) := hrest'
  clear hrest'
  obtain ⟨K, hK⟩ : ∃ K : Nat, K = 1 + r := ⟨_, rfl⟩
  have hK1 : 1 ≤ K := by omega
  have hK2 : K ≤ 50 := by omega
  have NT := Lib.hid (by have := new_t W K hK1 (by omega); rwa [show (K : Int) = 1 + (r : Int) by omega] at this)
  have HK := Lib.hid hK
  clear hK
  go_enter Try.func3, Try.ntmps3
  go_wp2_with fail
  refine NT.out.mono ?_
  rintro e w1 ⟨rfl, ts, hb1⟩
  go_wp2_with fail
  have TS1 := Lib.hid ts
  have HB1 := Lib.hid hb1
  clear ts hb1
  obtain ⟨i0, hi, hz0, hz1, hz2⟩ := info_of Try.infoMark
  go_loopw [7, 8] (fun v i wr => ∃ (k : Nat) (L : List Mk) (gs : List Nat), k ≤ l.length ∧ k ≤ 200 ∧ i = .int .i64 k ∧ L.length = k ∧ wr.ownsRow W.heap.size 32 5 v k (flat L) ∧ TS wr (W.heap.size + 1) W.heap.size gs K ((k - K : Nat) : Int) (lastT k) (L.drop (k - K)) ∧ (∀ x, v.ownBlock = some x → ¬ tb (W.heap.size + 1) W.heap.size gs x) ∧ Hid (∀ x ∈ gs, W.heap.size ≤ x) ∧ Below W.heap.size W wr) (fun _ i _ => l.length - (intOf i).toNat)
  case atStart => exact ⟨0, [], [], Nat.zero_le _, by decide, by go_num, rfl, World.ownsRow_nil _ _ _ _, by simpa [lastT] using TS1.out, by intro x hx; simp [Value.ownBlock] at hx, Lib.hid (by intro x hx; cases hx), HB1.out⟩
  case round =>
    obtain ⟨k, L, gs, hk, hk2, rfl, hL, hown, ts, hdis, hgs, hbe⟩ := hrel
    have SU := Lib.hid sure_ok
    by_cases hlt : k < l.length
    · have hkn : (k : Int) < (l.length : Int) := by omega
      by_cases hlt2 : k < 200
      · have hk200 : (k : Int) < 200 := by omega
        obtain ⟨b, o, rfl, hb, hc⟩ := hr k hlt
        have hcx := (hbe.cell (p := ⟨b, o + k, none⟩) hb).trans hc
        generalize l.getD k 0 = x at *
        obtain ⟨y, hy9, hy'⟩ := urest x 9 (by decide) (by decide)
        have hy : wrap64 ((IntKind.u64.wrap x).tmod 9) = (y : Int) := hy'
        clear hy'
        have hdiv : (k : Int).tdiv 2 = ((k / 2 : Nat) : Int) := by rw [Int.tdiv_eq_ediv_of_nonneg (by omega)]; omega
        have hdl : (k / 2 : Nat) ≤ 100 := by omega
        obtain ⟨m, hm⟩ : ∃ m : Mk, m = ⟨(k : Int) / 2, 1 + (y : Int), 0, 0, k⟩ := ⟨_, rfl⟩
        have hown1 := hown.alloc (.cells #[.int .i64 ((k : Int) / 2), .int .i64 (1 + (y : Int)), .int .i64 0, .int .i64 0, .int .i64 k] 32)
        have hbe1 := hbe.alloc hbe.size (.cells #[.int .i64 ((k : Int) / 2), .int .i64 (1 + (y : Int)), .int .i64 0, .int .i64 0, .int .i64 k] 32)
        have hsz1 := hbe1.size
        go_wp2_with (at_builtin; refine append5b rfl _ _ 29 rfl W.heap.size 32 i0 _ Try.underlying29 hi hz0 hz1 hz2 rfl _ _ _ rfl hown1 _ ⟨(k : Int) / 2, 1 + (y : Int), 0, 0, k⟩ _ rfl (by simp) (by omega) hsz1 hbe1 ?_; intro v' w3 hown3 hbe3 hch3 hvo; obtain ⟨⟨y0, y1, y2, y3, y4⟩, ts3, hdis3⟩ := after_append ⟨(k : Int) / 2, 1 + (y : Int), 0, 0, k⟩ ts hown hdis (hch3.mono fun _ h => h) hvo; simp only [Nat.zero_add] at y1 y2 y3 y4)
        have AD := add_t1 w3 _ _ _ _ _ _ _ ⟨(k : Int) / 2, 1 + (y : Int), 0, 0, k⟩ ts3 hL hk2 ⟨⟨by show 0 ≤ (k : Int) / 2; omega, by show (k : Int) / 2 ≤ _; omega⟩, ⟨by show 1 ≤ 1 + (y : Int); omega, by show 1 + (y : Int) ≤ 9; omega⟩, rfl, rfl, ⟨by show 0 ≤ (k : Int); omega, by show (k : Int) ≤ _; omega⟩⟩ (by show lastT k ≤ (k : Int) / 2; unfold lastT; split <;> omega)
        refine AD.mono ?_
        clear AD
        have HLT : Hid (lastT (k + 1) = (k : Int) / 2) := by refine Lib.hid ?_; unfold lastT; rw [if_neg (by omega)]; simp
        have hLm : (L ++ [(⟨(k : Int) / 2, 1 + (y : Int), 0, 0, k⟩ : Mk)]).length = k + 1 := by simp [hL]
        obtain ⟨L', hL'⟩ : ∃ L', L' = L ++ [(⟨(k : Int) / 2, 1 + (y : Int), 0, 0, k⟩ : Mk)] := ⟨_, rfl⟩
        rw [← hL'] at hLm hown3 ⊢
        have HL' := Lib.hid hLm
        clear hm hLm hL' hL
        rintro e w5 ⟨rfl, gs5, ts5, hgs5, ch5⟩
        have own5 := own_ch hown3 ch5 hdis3
        have be5 : Below W.heap.size W w5 := hbe3.trans ((ch5.below (fun x hx => hx.elim (fun h => by omega) (fun h => h.elim (fun h => by omega) (fun h => hgs.out x h))) hbe3.size))
        have hdis5 : Hid (∀ x, v'.ownBlock = some x → ¬ tb (W.heap.size + 1) W.heap.size gs5 x) := Lib.hid (fun x hx h => h.elim (fun h => hdis3 x hx (.inl h)) (fun h => h.elim (fun h => hdis3 x hx (.inr (.inl h))) (fun h => (hgs5 x h).elim (fun h => hdis3 x hx (.inr (.inr h))) (fun h => by have := own_lt hown3 x hx; omega))))
        have hgs5' : Hid (∀ x ∈ gs5, W.heap.size ≤ x) := Lib.hid (fun x hx => (hgs5 x hx).elim (fun h => hgs.out x h) (fun h => by have := hbe3.size; omega))
        have TS5 := Lib.hid ts5
        have OWN5 := Lib.hid own5
        have BE5 := Lib.hid be5
        clear ts3 hdis3 hown3 hbe3 hch3 ch5 hgs5 ts5 own5 be5 hvo hown1 hbe1 hsz1 y0 y1 y2 y3 y4 hcx hc hown ts hdis hgs hbe
        go_wp2_with fail
        have AL := all_t w5 _ _ _ _ _ _ _ TS5.out
        refine AL.mono ?_
        clear AL
        rintro e w6 ⟨v2, rfl, own6, be6⟩
        have rm2 := (RM_own own6).1
        have own5 := own_below OWN5.out be6
        have rm1 := (RM_own own5).1
        have BE6 : Hid (Below W.heap.size W w6) := Lib.hid (BE5.out.trans (be6.mono BE5.out.size))
        have TS6 := Lib.hid (TS5.out.below be6)
        have OWN6 := Lib.hid own5
        obtain ⟨b1, o1, c1, rfl, hc1⟩ := rm1.out' HL'.out (by omega)
        by_cases hKk : K ≤ k + 1
        · obtain ⟨b2, o2, c2, rfl, hc2⟩ := rm2.out' (n := 1 + r) (by rw [List.length_drop, HL'.out, ← HK.out]; omega) (by omega)
          have SM := same_s (L'.drop (k + 1 - K)) (L'.drop (k + 1 - (1 + r))) _ _ w6 rm2 (rm1.from HL'.out (by omega)) (by rw [List.length_drop, HL'.out]; omega)
          have hd : decide (L'.drop (k + 1 - K) = L'.drop (k + 1 - (1 + r))) = true := by rw [HK.out]; simp
          rw [hd] at SM
          have SMH := Lib.hid SM
          have hrk : (1 + (r : Int)) ≤ (k : Int) + 1 := by have := HK.out; omega
          have hrn : ¬ ((k : Int) + 1 < 1 + (r : Int)) := by omega
          rw [show ((k + 1 - K : Nat) : Int) = (k : Int) + 1 - (1 + (r : Int)) by have := HK.out; omega]
          clear rm1 rm2 own5 own6 be6 hd SM
          go_wp2_with fail
          refine SMH.out.mono ?_
          rintro e w7 ⟨rfl, n7, rfl⟩
          go_wp2_with fail
          go_roundw
          case rel => exact ⟨k + 1, L', gs5, by omega, by omega, by go_num, HL'.out, own_drewN OWN6.out _, by rw [HLT.out]; exact TS6.out.of_block (Nat.le_refl _) (fun _ _ => rfl), hdis5.out, hgs5', BE6.out.trans (Qt.below ⟨_, rfl⟩)⟩
          case measure => simp [intOf]; omega
        · obtain ⟨b2, o2, c2, rfl, hc2⟩ := rm2.out' (n := k + 1) (by rw [List.length_drop, HL'.out]; omega) (by omega)
          have SM := same_s (L'.drop (k + 1 - K)) L' _ _ w6 rm2 rm1 (by rw [List.length_drop, HL'.out]; omega)
          have hd : decide (L'.drop (k + 1 - K) = L') = true := by rw [show k + 1 - K = 0 by omega]; simp
          rw [hd] at SM
          have SMH := Lib.hid SM
          have hrn : (k : Int) + 1 < 1 + (r : Int) := by have := HK.out; omega
          rw [show ((k + 1 - K : Nat) : Int) = 0 by omega]
          clear rm1 rm2 own5 own6 be6 hd SM
          go_wp2_with fail
          refine SMH.out.mono ?_
          rintro e w7 ⟨rfl, n7, rfl⟩
          go_wp2_with fail
          go_roundw
          case rel => exact ⟨k + 1, L', gs5, by omega, by omega, by go_num, HL'.out, own_drewN OWN6.out _, by rw [HLT.out]; exact TS6.out.of_block (Nat.le_refl _) (fun _ _ => rfl), hdis5.out, hgs5', BE6.out.trans (Qt.below ⟨_, rfl⟩)⟩
          case measure => simp [intOf]; omega
      · obtain rfl : k = 200 := by omega
        have hkn2 : (200 : Int) < (l.length : Int) := by omega
        go_wp2_with fail
        refine (SU.out _).mono ?_
        rintro e w' ⟨rfl, hb⟩
        go_wp2_with fail
        go_ret
        exact ⟨rfl, hbe.trans (hb.mono hbe.size)⟩
    · obtain rfl : k = l.length := by omega
      go_wp2_with fail
      refine (SU.out _).mono ?_
      rintro e w' ⟨rfl, hb⟩
      go_wp2_with fail
      go_ret
      exact ⟨rfl, hbe.trans (hb.mono hbe.size)⟩
theorem traceLast_walk (a : Int) (wa : -9223372036854775808 ≤ a ∧ a ≤ 9223372036854775807) (l : List Int) (v : Value) {W : World} (hv : RI W v l) (hy : ∀ x ∈ l, -9223372036854775808 ≤ x ∧ x ≤ 9223372036854775807) (hz : l.length * 8 ≤ 140737488351232) (_W : World) :
    Calls Try.prog 3 #[.int .i64 a, v] W fun e w' => e = .returned (.bool true) ∧ Below W.heap.size W w' := by
  refine traceLast_walk0 a wa l v ?_ (by omega)
  rcases hv with ⟨rfl, p, c, rfl, _⟩ | ⟨b, o, c, rfl, hb, hc⟩
  · exact ⟨p, c, rfl, fun i hi => by simp at hi⟩
  · exact ⟨_, c, rfl, fun i hi => ⟨b, o, rfl, hb, hc i hi⟩⟩
end Go.Proofs.Ytpaffemjdffoiaa
