/- snap.Save of the kernel with the root alone. -/
import Derived.Test.YtmfmmopnapchjaaDoorVm
import Derived.Test.YtmfmmopnapchjaaDoorYe
import Derived.Test.YtmfmmopnapchjaaDoorYg
import Derived.Test.YtmfmmopnapchjaaDoorYa
namespace Go.Proofs.YtmfmmopnapchjaaDoor
open Go Go.RowKit Go.Shelf Go.Sort
set_option linter.unusedVariables false
set_option linter.unusedSimpArgs false
set_option maxRecDepth 100000
set_option maxHeartbeats 3200000

/-- The root's numbers. -/
def rowN : List Int := [1099511627777, 0, 0, 0, 0, 0, 0, 0, 0, 0, 0, 0, 0, 0, 0, 0, 0, 0, 0, 0, 0, 0, 0]
def hd1 : List UInt8 := lineT [116, 105, 116, 104, 101] [1]
def hd2 : List UInt8 := hd1 ++ lineT [110, 111, 119] [0, 0]
def hd3 : List UInt8 := hd2 ++ lineT [103, 101, 110, 115] ((List.range 64).map fun _ => 1)
def hd4 : List UInt8 := hd3 ++ lineT [110, 111, 100, 101] rowN
def hd5 : List UInt8 := hd4 ++ lineT [115, 108, 97, 99, 107] [-1]
def hd6 : List UInt8 := hd5 ++ lineT [115, 108, 111, 116, 115] (slotT0 (fun _ => 1) (fun _ => false) 16)
/-- The text of the kernel with the root alone. -/
def txt0 : List UInt8 := hd6 ++ ([115, 117, 109, 32] ++ hexS (sumS hd6).toNat ++ [10])
theorem hd_len : hd1.length ≤ 10000 ∧ hd2.length ≤ 10000 ∧ hd3.length ≤ 10000 ∧ hd4.length ≤ 10000 ∧ hd5.length ≤ 10000 ∧ hd6.length ≤ 10000 := by
  have L : ∀ (w : List UInt8) (ns : List Int), (∀ n ∈ ns, I64 n) → w.length ≤ 5 → (lineT w ns).length ≤ 6 + 22 * ns.length := by
    intro w ns h hw
    have := numsT_len ns h
    simp only [lineT, List.length_append, List.length_cons, List.length_nil]
    omega
  have h1 := L [116, 105, 116, 104, 101] [1] (by simp [I64]) (by simp)
  have h2 := L [110, 111, 119] [0, 0] (by simp [I64]) (by simp)
  have h3 := L [103, 101, 110, 115] ((List.range 64).map fun _ => 1) (by intro n hn; obtain ⟨_, _, rfl⟩ := List.mem_map.1 hn; simp [I64]) (by simp)
  have h4 := L [110, 111, 100, 101] rowN (by simp [I64, rowN]) (by simp)
  have h5 := L [115, 108, 97, 99, 107] [-1] (by simp [I64]) (by simp)
  have h6 := L [115, 108, 111, 116, 115] (slotT0 (fun _ => 1) (fun _ => false) 16) (by intro n hn; obtain ⟨_, _, rfl⟩ := List.mem_map.1 hn; simp [I64]) (by simp)
  rw [slotT0_len] at h6
  simp only [List.length_map, List.length_range, List.length_cons, List.length_nil, rowN] at h1 h2 h3 h4 h5
  simp only [hd6, hd5, hd4, hd3, hd2, hd1, List.length_append, rowN] at *
  omega
theorem St0.below {W w w' : World} {gp : Option Addr} {gc : Nat} {np : Option Addr} {nc : Nat} {ap : Option Addr} {ac : Nat} {tp : Option Addr} {tc : Nat} (h : St0 W w gp gc np nc ap ac tp tc) (b : Below w.heap.size w w') : St0 W w' gp gc np nc ap ac tp tc :=
  ⟨own_below1 h.ga b, own_below1 h.nd b, own_below1 h.sg b, own_below1 h.st b, h.be.trans (b.mono h.be.size)⟩
abbrev stO (gp : Option Addr) (gc : Nat) (np : Option Addr) (nc : Nat) (ap : Option Addr) (ac : Nat) (tp : Option Addr) (tc : Nat) : Obj := .cells #[.int .i64 0, .int .i64 0, .slice gp 64 gc, .slice np 1 nc, .slice ap 16 ac, .slice tp 16 tc, .slice none 0 0, .int .i64 (-1)] 67
/-- Save under way. -/
structure Sv (w1 : World) (o : Obj) (l : List UInt8) (wc : World) : Prop where
  bd : Bd (w1.heap.size + 1) (w1.heap.size + 1) l wc
  tb : wc.heap[w1.heap.size]? = some o
  bw : Below w1.heap.size w1 wc
  sz : w1.heap.size + 1 < wc.heap.size
theorem Sv.line {w1 wc w' : World} {o : Obj} {l l' : List UInt8} (h : Sv w1 o l wc) (hb : Bd (w1.heap.size + 1) (w1.heap.size + 1) l' w') (b : Below (w1.heap.size + 1) wc w') : Sv w1 o l' w' :=
  ⟨hb, (b.block _ (Nat.lt_succ_self _)).trans h.tb, h.bw.trans (b.mono (Nat.le_succ _)), Nat.lt_of_lt_of_le h.sz b.size⟩
theorem Sv.below {w1 wc w' : World} {o : Obj} {l : List UInt8} (h : Sv w1 o l wc) (b : Below wc.heap.size wc w') : Sv w1 o l w' :=
  ⟨h.bd.below b, kb_below h.tb b, h.bw.trans (b.mono (Nat.le_of_lt (Nat.lt_of_succ_lt h.sz))), Nat.lt_of_lt_of_le h.sz b.size⟩
abbrev zz6 : List Value := [.int .i64 0, .int .i64 0, .int .i64 0, .int .i64 0, .int .i64 0, .int .i64 0]
theorem account0_c (w : World) : Calls Tryd.prog 24 #[.agg #[.int .i64 0, .int .i64 0, .int .i64 0, .int .i64 0, .int .i64 0, .int .i64 0]] w fun e w' => ∃ k, e = .returned (.slice (some ⟨k, 0, none⟩) 6 6) ∧ w'.ownsRow w.heap.size 3 1 (.slice (some ⟨k, 0, none⟩) 6 6) 6 zz6 ∧ Below w.heap.size w w' := account_c Acc6.zero w
/-- 'append(s, x...)' of a row that the call has made, met in a region that draws its order. -/
theorem step_appendK {P : Program} {ops : Array Oper} {o : Oper} {a : Act} {K : Act → World → Prop} {Q : Exit → Act → World → Prop} {E : Prop} {w : World} (hgd : o.guard = none) (s x : Operand) (t : TypeId)
    (ho : o.op = .call { callee := .builtin .append, args := #[s, x], argTypes := #[t, t] })
    (base : Nat) (e : TypeId) (i : TypeInfo) (z : Value) (bytes : Nat) (ht : P.underlying t = some (.slice e)) (hi : P.info? e = some i) (hz : i.zero = some z)
    (hsize : i.size = 1) (hby : i.bytes = bytes) (hzs : z.cells.size = 1)
    (v : Value) (n : Nat) (xs : List Value) (hs : a.eval s = v) (hown : w.ownsRow base e 1 v n xs)
    (k Bx m c : Nat) (news : List Value) (hx : a.eval x = .slice (some ⟨k, 0, none⟩) m c) (hox : w.ownsRow Bx e 1 (.slice (some ⟨k, 0, none⟩) m c) m news) (hm : 0 < m) (h1 : ∀ u ∈ news, u.oneCell' = true)
    (h63 : n + m ≤ maxLen) (hbytes : (n + m) * bytes ≤ 140737488355328) (hbase : base ≤ w.heap.size)
    (h : ∀ g cap w', w'.ownsRow base e 1 (.slice (some ⟨g, 0, none⟩) (n + m) cap) (n + m) (xs ++ news) → w.grownBy w' v.ownBlock → K (a.put o.dst (.slice (some ⟨g, 0, none⟩) (n + m) cap)) w') :
    if Region.wanted o (yielded ops a.tmps) = true then Oper.wp P o a w K Q else E :=
  step_append_lies (w := w) hgd s x t ho base e i z 1 bytes ht hi hz hsize hby hzs (by decide) v n xs hs hown ⟨k, 0, none⟩ m c news hx hox.1 (fun j u hu => hox.cells (g := k) rfl j u hu) h1 hm h63 hbytes hbase _ rfl (fun g cap w' a b _ _ => h g cap w' a b)
theorem flag0_c (w : World) : Calls Tryd.prog 23 #[.bool false] w fun e w' => e = .returned (.int .i64 0) ∧ w = w' := flag_c false w
theorem cat_sum (l : List UInt8) : (⟨#[115, 117, 109, 32]⟩ : ByteArray) ++ ⟨l.toArray⟩ ++ ⟨#[10]⟩ = ⟨([115, 117, 109, 32] ++ l ++ [10]).toArray⟩ := by
  apply ByteArray.ext; simp [ByteArray.data_append]
theorem hexS_len (n : Nat) (h : n < 4294967296) : (hexS n).length ≤ 16 := by
  have := hexD_len n h
  unfold hexS
  rw [List.length_append, repeatL_len]
  simp; omega
theorem sumhd_c (w : World) : Calls Tryd.prog 5 #[str hd6] w fun e w' => e = .returned (.int .u32 ((sumS hd6).toNat : Int)) ∧ w = w' := by
  have h := sum_c ⟨hd6.toArray⟩ (by have := hd_len; simp [ByteArray.size]; omega) w
  have e : ((sumS hd6).toNat : Int) = sumS hd6 := Int.toNat_of_nonneg (sumS_range hd6).1
  rw [e]
  exact h
theorem sumhd_lt : (sumS hd6).toNat < 4294967296 := by have := sumS_range hd6; omega
theorem save0_c (w : World) (k t r n lf bk m pl pt pr : Nat) (H : K0 w k t r n lf bk m pl pt pr) (E : EnvZ w) :
    Calls Tryd.prog 11 #[.pointer (some ⟨k, 0, none⟩)] w fun e w' => e = .returned (str txt0) ∧ Below w.heap.size w w' := by
  have ST := Lib.hid (state0_c w k t r n lf bk m pl pt pr H)
  have HE : Hid (∀ w', Below w.heap.size w w' → EnvZ w') := Lib.hid (fun w' b => E.below b)
  have HL := Lib.hid hd_len
  clear H E
  go_enter Tryd.func11, Tryd.ntmps11
  go_wp2_with fail
  refine ST.out.mono ?_
  rintro e w1 ⟨gp, gc, np, nc, ap, ac, tp, tc, rfl, S1⟩
  have KS1 := Lib.hid S1
  clear S1
  go_wp2_with fail
  have LN0 : ∀ (Bk : Nat), w.heap.size ≤ Bk → ∀ (l word : List UInt8) (v : Value) (B' : Nat) (ns : List Int) (wc : World), Below w.heap.size w wc → Bd Bk Bk l wc → wc.ownsRow B' 3 1 v ns.length (ns.map (Value.int .i64)) → (∀ n ∈ ns, I64 n) → ns.length ≤ 100000 → l.length ≤ 1000000 → word.length ≤ 100 → Bk ≤ wc.heap.size →
      Calls Tryd.prog 22 #[.pointer (some ⟨Bk, 0, none⟩), str word, v] wc fun e w' => e = .returned (.tuple #[]) ∧ Bd Bk Bk (l ++ lineT word ns) w' ∧ Below Bk wc w' ∧ Kp wc w' :=
    fun Bk hwB l word v B' ns wc hb hbd ho hi hn hl hw hB => line_c Bk Bk l word v B' ns wc hbd ho hi hn (by omega) hB (HE.out wc hb).env (fun w' hb' => (HE.out w' (hb.trans (hb'.mono hwB))).env)
  have LN := Lib.hid (LN0 (w1.heap.size + 1) (by have := KS1.out.be.size; omega))
  clear LN0
  generalize hwa : World.alloc (World.alloc w1 _) _ = w2
  have z2 : w2.heap.size = w1.heap.size + 2 := by rw [← hwa]; exact alloc2_size w1 _ _
  have V2 := Lib.hid (show Sv w1 (stO gp gc np nc ap ac tp tc) [] w2 from ⟨by
    rw [← hwa]
    have := Bd.new (w1.alloc (stO gp gc np nc ap ac tp tc))
    rw [alloc_size] at this
    exact this, by rw [← hwa]; exact kb_alloc (kb_new w1 _) _, by rw [← hwa]; exact below_two w1 _ _, by omega⟩)
  rw [show (w1.heap.size + 1 + 1 : Nat) = w2.heap.size by omega]
  clear hwa z2
  have own3 := own_new (w := w2) (T := 3) [.int .i64 1] (Nat.le_refl _) (by decide)
  have b3 := (Below.refl _ w2).alloc (Nat.le_refl _) (.cells #[.int .i64 1] 3)
  have V3 := Lib.hid (V2.out.below b3)
  refine (LN.out [] [116, 105, 116, 104, 101] _ _ [1] _ (KS1.out.be.trans (V3.out.bw.mono KS1.out.be.size)) V3.out.bd own3 (by simp [I64]) (by simp) (by simp) (by simp) (Nat.le_of_lt V3.out.sz)).mono ?_
  rintro e w4 ⟨rfl, d4, b4, _⟩
  have V4 : Hid (Sv w1 (stO gp gc np nc ap ac tp tc) hd1 w4) := Lib.hid (V3.out.line d4 b4)
  have c4 := kb_cell V4.out.tb
  clear d4 b4 own3 b3 V2 V3
  go_wp2_with fail
  generalize hw5 : World.alloc w4 _ = w5
  have own5 : w5.ownsRow w4.heap.size 3 1 (.slice (some ⟨w4.heap.size, 0, none⟩) 2 2) 2 [.int .i64 0, .int .i64 0] := hw5 ▸ own_new (w := w4) (T := 3) [.int .i64 0, .int .i64 0] (Nat.le_refl _) (by decide)
  have b5 : Below w4.heap.size w4 w5 := hw5 ▸ (Below.refl _ w4).alloc (Nat.le_refl _) _
  have V5 := Lib.hid (V4.out.below b5)
  refine (LN.out hd1 [110, 111, 119] _ _ [0, 0] _ (KS1.out.be.trans (V5.out.bw.mono KS1.out.be.size)) V5.out.bd own5 (by simp [I64]) (by simp) (by have := HL.out; omega) (by simp) (Nat.le_of_lt V5.out.sz)).mono ?_
  rintro e w6 ⟨rfl, d6, b6, _⟩
  have V6 : Hid (Sv w1 (stO gp gc np nc ap ac tp tc) hd2 w6) := Lib.hid (V5.out.line d6 b6)
  have c6 := kb_cell V6.out.tb
  clear d6 b6 own5 b5 V4 V5 c4 hw5
  go_wp2_with fail
  have own6 := (KS1.out.below V6.out.bw).ga
  refine (LN.out hd2 [103, 101, 110, 115] _ w.heap.size ((List.range 64).map fun _ => 1) _ (KS1.out.be.trans (V6.out.bw.mono KS1.out.be.size)) V6.out.bd (by simpa [gensL, Function.comp_def] using own6) (by intro n hn; obtain ⟨_, _, rfl⟩ := List.mem_map.1 hn; simp [I64]) (by simp) (by have := HL.out; omega) (by simp) (Nat.le_of_lt V6.out.sz)).mono ?_
  rintro e w7 ⟨rfl, d7, b7, _⟩
  have V7 : Hid (Sv w1 (stO gp gc np nc ap ac tp tc) hd3 w7) := Lib.hid (V6.out.line d7 b7)
  have c7 := kb_cell V7.out.tb
  clear d7 b7 own6 V6 c6
  go_wp2_with fail
  obtain ⟨g, rfl⟩ : ∃ g, np = some ⟨g, 0, none⟩ := by
    rcases KS1.out.nd.2 with ⟨_, h⟩ | ⟨g, cap, cur, hv, _⟩
    · cases h
    · injection hv with h1 _ _
      exact ⟨g, h1⟩
  go_loopw [31] (fun i wr => ∃ j : Nat, j ≤ 1 ∧ i = .int .i64 j ∧ Sv w1 (stO gp gc (some ⟨g, 0, none⟩) nc ap ac tp tc) (if j = 0 then hd3 else hd4) wr) (fun i _ => 1 - (intOf i).toNat)
  case atStart => exact ⟨0, by decide, rfl, V7.out⟩
  case round =>
    obtain ⟨j, hj, rfl, hV⟩ := hrel
    by_cases hlt : j = 0
    · subst hlt
      have VR : Hid (Sv w1 (stO gp gc (some ⟨g, 0, none⟩) nc ap ac tp tc) hd3 wr) := Lib.hid hV
      have ndr := (KS1.out.below VR.out.bw).nd
      have hrg : wr.rangeAt g 0 ns0 := fun i v hv => by
        have := ndr.cells (g := g) rfl i v hv
        rw [Nat.zero_add]
        have hp : (⟨g, 0, none⟩ : Addr).add i = ⟨g, i, none⟩ := by unfold Addr.add; split <;> simp_all
        rwa [hp] at this
      have HRG := Lib.hid hrg
      have hth : ∀ j, j < ns0.toArray.size → ((wr.alloc nsZ).cell? ⟨wr.heap.size, 0 + j, none⟩).isSome = true ∧ (wr.alloc nsZ).frozen? ⟨wr.heap.size, 0 + j, none⟩ = false := fun j hj => ⟨isSome_blk (kb_new wr nsZ) (by simpa [ns0] using hj), kb_frozen (kb_new wr nsZ) _⟩
      have HTH := Lib.hid hth
      have hoc : Hid ((ns0.toArray.all fun x => x.oneCell') = true) := Lib.hid (by simp [ns0, Value.oneCell'])
      clear hV ndr hrg hth c7
      go_upto_region 9 with (first
        | (refine wpList_load_mid rfl 79 (.tmp 34) rfl g 0 rfl ns0 _ HRG.out Tryd.underlying79 rfl (by kernel_rfl) ?_)
        | (refine wpList_store_mid rfl 79 (.tmp 6) (.tmp 35) rfl wr.heap.size 0 ns0.toArray rfl rfl HTH.out (by kernel_rfl) hoc.out ?_))
      rw [setCells_putL]
      have x8 := putL_all (cs := nsZL) (kb_new wr nsZ) ns0 rfl
      have b8 := putL_below (b := wr.heap.size) (Nat.le_refl _) ns0 0 ((Below.refl wr.heap.size wr).alloc (Nat.le_refl _) nsZ)
      rw [show (World.alloc wr _) = wr.alloc nsZ from rfl]
      generalize putL (wr.alloc nsZ) wr.heap.size 0 ns0 = w8 at *
      have V8 := Lib.hid (VR.out.below b8)
      have q8 : ∀ i, w8.cell? ⟨wr.heap.size, i, none⟩ = #[.int .i64 1099511627777, .int .i64 0, .int .i64 0, .int .i64 0, .int .i64 0, .int .i64 0, .bool false, .int .i64 0, .int .i64 0, .int .i64 0, .int .i64 0, .int .i64 0, .int .i64 0, .int .i64 0, .int .i64 0, .int .i64 0, .int .i64 0, .int .i64 0, .int .i64 0, .int .i64 0, .int .i64 0, .int .i64 0, .int .i64 0, .slice none 0 0, .slice none 0 0, .slice none 0 0][i]? := fun i => kb_cell x8 i
      have hX8 : wr.heap.size < w8.heap.size := kb_lt x8
      have X8 := Lib.hid x8
      clear x8 b8 VR
      generalize wr.heap.size = X at *
      (try simp only [Act.put])
      go_upto_region 10 with fail
      obtain ⟨Y, hY⟩ : ∃ Y, Y = w8.heap.size := ⟨_, rfl⟩
      generalize hw9 : World.alloc w8 _ = w9
      have y9b : w9.heap[Y]? = some (.cells #[.int .i64 0, .int .i64 0, .int .i64 0, .int .i64 0, .bool false, .int .i64 0, .int .i64 0, .int .i64 0] 51) := by rw [← hw9, hY]; exact kb_new w8 _
      have y9 := kb_cell y9b
      have b9 : Below w8.heap.size w8 w9 := by rw [← hw9]; exact (Below.refl _ w8).alloc (Nat.le_refl _) _
      have V9 := Lib.hid (V8.out.below b9)
      have X9 := Lib.hid (kb_below X8.out b9)
      have q9 : ∀ i, w9.cell? ⟨X, i, none⟩ = #[.int .i64 1099511627777, .int .i64 0, .int .i64 0, .int .i64 0, .int .i64 0, .int .i64 0, .bool false, .int .i64 0, .int .i64 0, .int .i64 0, .int .i64 0, .int .i64 0, .int .i64 0, .int .i64 0, .int .i64 0, .int .i64 0, .int .i64 0, .int .i64 0, .int .i64 0, .int .i64 0, .int .i64 0, .int .i64 0, .int .i64 0, .slice none 0 0, .slice none 0 0, .slice none 0 0][i]? := fun i => kb_cell X9.out i
      have FL := Lib.hid (Calls.q_of (fun w => flag0_c w) w9)
      rw [← hY]
      clear hw9 b9 hY q8 X8 V8 hX8 y9b
      refine region_drawn_tail 27 (by kernel_rfl) (by kernel_rfl) ?_
      repeat (quiet_step (with_reducible exact FL.out _))
      refine wpQuiet_nil ?_
      rintro _ ⟨kq, rfl⟩
      simp only [List.drop_succ_cons, List.drop_zero]
      have Va := Lib.hid (V9.out.below (Qt.below (w := w9.drewN kq) ⟨kq, rfl⟩))
      have Xa := Lib.hid (show (w9.drewN kq).heap[X]? = _ from X9.out)
      clear V9 X9 q9 y9 FL
      generalize w9.drewN kq = wa at *
      go_upto_region 11 with fail
      generalize hwb : World.alloc wa _ = wb
      have ownb : wb.ownsRow wa.heap.size 3 1 (.slice (some ⟨wa.heap.size, 0, none⟩) 11 11) 11 [.int .i64 1099511627777, .int .i64 0, .int .i64 0, .int .i64 0, .int .i64 0, .int .i64 0, .int .i64 0, .int .i64 0, .int .i64 0, .int .i64 0, .int .i64 0] := by rw [← hwb]; exact own_new (w := wa) [.int .i64 1099511627777, .int .i64 0, .int .i64 0, .int .i64 0, .int .i64 0, .int .i64 0, .int .i64 0, .int .i64 0, .int .i64 0, .int .i64 0, .int .i64 0] (Nat.le_refl _) (by decide)
      have bb : Below wa.heap.size wa wb := by rw [← hwb]; exact (Below.refl _ wa).alloc (Nat.le_refl _) _
      have KQ : Hid (∀ w', Below wa.heap.size wa w' → w'.cell? ⟨X, 11, none⟩ = some (.int .i64 0) ∧ w'.cell? ⟨X, 12, none⟩ = some (.int .i64 0) ∧ w'.cell? ⟨X, 13, none⟩ = some (.int .i64 0) ∧ w'.cell? ⟨X, 14, none⟩ = some (.int .i64 0) ∧ w'.cell? ⟨X, 15, none⟩ = some (.int .i64 0) ∧ w'.cell? ⟨X, 16, none⟩ = some (.int .i64 0) ∧ w'.cell? ⟨X, 17, none⟩ = some (.int .i64 0) ∧ w'.cell? ⟨X, 18, none⟩ = some (.int .i64 0) ∧ w'.cell? ⟨X, 19, none⟩ = some (.int .i64 0) ∧ w'.cell? ⟨X, 20, none⟩ = some (.int .i64 0) ∧ w'.cell? ⟨X, 21, none⟩ = some (.int .i64 0) ∧ w'.cell? ⟨X, 22, none⟩ = some (.int .i64 0)) := Lib.hid (fun w' hb => by
        have q := kb_cell (kb_below Xa.out hb)
        exact ⟨q 11, q 12, q 13, q 14, q 15, q 16, q 17, q 18, q 19, q 20, q 21, q 22⟩)
      have hqd : Below wa.heap.size wa wb.drew := bb.drew
      have R0 : wb.drew.ownsRow wa.heap.size 3 1 (.slice (some ⟨wa.heap.size, 0, none⟩) 11 11) 11 [.int .i64 1099511627777, .int .i64 0, .int .i64 0, .int .i64 0, .int .i64 0, .int .i64 0, .int .i64 0, .int .i64 0, .int .i64 0, .int .i64 0, .int .i64 0] := ownb
      have AC := Lib.hid (fun w => account0_c w)
      obtain ⟨i0, hi0, hz0, hz1, hz2⟩ := info_of Tryd.infoIntV
      have hM1 : 11 + 6 ≤ maxLen := by unfold maxLen; omega
      have hM2 : (11 + 6) * 8 ≤ 140737488355328 := by omega
      have hM3 : 17 + 6 ≤ maxLen := by unfold maxLen; omega
      have hM4 : (17 + 6) * 8 ≤ 140737488355328 := by omega
      have hz6 : ∀ u ∈ zz6, u.oneCell' = true := by simp [zz6, Value.oneCell']
      clear hwb ownb bb
      go_region_held3 (fun w' => w'.cell? ⟨X, 11, none⟩ = some (.int .i64 0) ∧ w'.cell? ⟨X, 12, none⟩ = some (.int .i64 0) ∧ w'.cell? ⟨X, 13, none⟩ = some (.int .i64 0) ∧ w'.cell? ⟨X, 14, none⟩ = some (.int .i64 0) ∧ w'.cell? ⟨X, 15, none⟩ = some (.int .i64 0) ∧ w'.cell? ⟨X, 16, none⟩ = some (.int .i64 0) ∧ w'.cell? ⟨X, 17, none⟩ = some (.int .i64 0) ∧ w'.cell? ⟨X, 18, none⟩ = some (.int .i64 0) ∧ w'.cell? ⟨X, 19, none⟩ = some (.int .i64 0) ∧ w'.cell? ⟨X, 20, none⟩ = some (.int .i64 0) ∧ w'.cell? ⟨X, 21, none⟩ = some (.int .i64 0) ∧ w'.cell? ⟨X, 22, none⟩ = some (.int .i64 0)) ((first | exact KQ.out _ hqd | exact KQ.out _ hq1 | exact KQ.out _ hq2 | exact KQ.out _ hq3 | exact KQ.out _ hq4)) ((first
        | (go_at_call 24; refine (AC.out _).mono ?_; rintro e wa1 ⟨ka, rfl, oa, ba⟩; (first | (have hq1 := hqd.trans (ba.mono hqd.size); have r1 := own_below1 R0 ba) | (have hq3 := hq2.trans (ba.mono hq2.size); have r3 := own_below1 own2 ba)))
        | (refine step_appendK rfl (.tmp 66) (.tmp 69) 60 rfl wa.heap.size 3 i0 _ 8 Tryd.underlying60 hi0 hz0 hz1 hz2 rfl _ 11 _ rfl r1 _ _ 6 _ zz6 rfl oa (by decide) hz6 hM1 hM2 hq1.size ?_; intro gB cB w2b own2 gr2; have hq2 := grown_below hq1 hq1.size r1 gr2)
        | (refine step_appendK rfl (.tmp 70) (.tmp 73) 60 rfl wa.heap.size 3 i0 _ 8 Tryd.underlying60 hi0 hz0 hz1 hz2 rfl _ 17 _ rfl r3 _ _ 6 _ zz6 rfl oa (by decide) hz6 hM3 hM4 hq3.size ?_; intro gC cC w4b own4 gr4; have hq4 := grown_below hq3 hq3.size r3 gr4)))
      have Vb : Hid (Sv w1 (stO gp gc (some ⟨g, 0, none⟩) nc ap ac tp tc) hd3 w4b) := Lib.hid (Va.out.below hq4)
      have O4 : Hid (w4b.ownsRow wa.heap.size 3 1 (.slice (some ⟨gC, 0, none⟩) 23 cC) rowN.length (rowN.map (Value.int .i64))) := Lib.hid own4
      clear hqd R0 AC r1 own2 gr2 hq1 hq2 hq3 r3 own4 gr4 hq4 oa ba KQ Xa Va
      go_wp2_with fail
      refine (LN.out hd3 [110, 111, 100, 101] _ _ rowN _ (KS1.out.be.trans (Vb.out.bw.mono KS1.out.be.size)) Vb.out.bd O4.out (by simp [I64, rowN]) (by simp [rowN]) (by have := HL.out; omega) (by simp) (Nat.le_of_lt Vb.out.sz)).mono ?_
      rintro e wd ⟨rfl, dd, bd, _⟩
      have Vd : Hid (Sv w1 (stO gp gc (some ⟨g, 0, none⟩) nc ap ac tp tc) hd4 wd) := Lib.hid (Vb.out.line dd bd)
      clear dd bd
      go_wp2_with fail
      go_roundw
      case rel => exact ⟨1, by decide, by go_num, Vd.out⟩
      case measure => simp [intOf]
    · obtain rfl : j = 1 := by omega
      have VR : Hid (Sv w1 (stO gp gc (some ⟨g, 0, none⟩) nc ap ac tp tc) hd4 wr) := Lib.hid hV
      have cr := kb_cell VR.out.tb
      clear hV c7
      go_wp2_with fail
      generalize hwb : World.alloc wr _ = wb
      have ownb : wb.ownsRow wr.heap.size 3 1 (.slice (some ⟨wr.heap.size, 0, none⟩) 1 1) 1 [.int .i64 (-1)] := by rw [← hwb]; exact own_new (w := wr) [.int .i64 (-1)] (Nat.le_refl _) (by decide)
      have bb : Below wr.heap.size wr wb := by rw [← hwb]; exact (Below.refl _ wr).alloc (Nat.le_refl _) _
      have Vb := Lib.hid (VR.out.below bb)
      refine (LN.out hd4 [115, 108, 97, 99, 107] _ _ [-1] _ (KS1.out.be.trans (Vb.out.bw.mono KS1.out.be.size)) Vb.out.bd ownb (by simp [I64]) (by simp) (by have := HL.out; omega) (by simp) (Nat.le_of_lt Vb.out.sz)).mono ?_
      rintro e wd ⟨rfl, dd, bd, _⟩
      have Vd : Hid (Sv w1 (stO gp gc (some ⟨g, 0, none⟩) nc ap ac tp tc) hd5 wd) := Lib.hid (Vb.out.line dd bd)
      have cd := kb_cell Vd.out.tb
      clear dd bd hwb ownb bb VR Vb cr
      go_wp2_with fail
      have SL := KS1.out.below Vd.out.bw
      refine (tasks0_c (w1.heap.size + 1) (w1.heap.size + 1) hd5 _ _ 16 (fun _ => 1) (fun _ => false) w.heap.size wd Vd.out.bd SL.sg SL.st (fun i _ => by decide) (by decide) (by have := HL.out; omega) (Nat.le_of_lt Vd.out.sz) (HE.out _ SL.be).env (fun w' hb => (HE.out w' (SL.be.trans (hb.mono (by have := KS1.out.be.size; omega)))).env)).mono ?_
      rintro e we ⟨rfl, de, be⟩
      have Ve : Hid (Sv w1 (stO gp gc (some ⟨g, 0, none⟩) nc ap ac tp tc) hd6 we) := Lib.hid (Vd.out.line de be)
      clear de be Vd cd SL
      go_wp2_with fail
      have hne : hd6 ≠ [] := by simp [hd6, hd5, hd4, hd3, hd2, hd1, lineT]
      have EB := Lib.hid (fun (w' : World) (b : Below w1.heap.size w1 w') => HE.out w' (KS1.out.be.trans (b.mono KS1.out.be.size)))
      refine (bstring_c (w1.heap.size + 1) (w1.heap.size + 1) hd6 we Ve.out.bd hne).mono ?_
      rintro e wf ⟨rfl, df, bf⟩
      have Vf := Lib.hid (Ve.out.line df bf)
      have SM := Lib.hid (fun w => sumhd_c w)
      clear df bf Ve
      have HX : Hid (txt0 = hd6 ++ ([115, 117, 109, 32] ++ hexS (sumS hd6).toNat ++ [10])) := Lib.hid rfl
      have hlt := sumhd_lt
      have hh := hexS_len (sumS hd6).toNat hlt
      generalize (sumS hd6).toNat = nS at *
      go_wp2_with fail
      refine (SM.out _).mono ?_
      rintro e w' ⟨rfl, rfl⟩
      clear SM
      go_wp2_with fail
      refine (hex_c nS hlt wf (EB.out wf Vf.out.bw)).mono ?_
      rintro e wg ⟨rfl, bg⟩
      have Vg := Lib.hid (Vf.out.below bg)
      have n1 : ¬ 9223372036854775807 < 4 + (hexS nS).length := by omega
      have n2 : ¬ 9223372036854775807 < 4 + (hexS nS).length + 1 := by omega
      have BWr := Lib.hid (bwrite_c (w1.heap.size + 1) (w1.heap.size + 1) hd6 ([115, 117, 109, 32] ++ hexS nS ++ [10]) wg Vg.out.bd (by have := HL.out; simp; omega) (Nat.le_of_lt Vg.out.sz))
      have HH := Lib.hid hh
      clear bg Vf hh
      go_wp2_with fail
      rw [cat_sum]
      refine BWr.out.mono ?_
      rintro e wh ⟨rfl, dh, bh, _⟩
      rw [← HX.out] at dh
      have Vh := Lib.hid (Vg.out.line dh bh)
      have hne2 : txt0 ≠ [] := by rw [HX.out]; simp
      clear dh bh Vg BWr n1 n2 HX
      go_wp2_with fail
      refine (bstring_c (w1.heap.size + 1) (w1.heap.size + 1) txt0 wh Vh.out.bd hne2).mono ?_
      rintro e wi ⟨rfl, di, bi⟩
      have Vi := Lib.hid (Vh.out.line di bi)
      clear di bi Vh
      go_wp2_with fail
      go_ret
      exact ⟨rfl, KS1.out.be.trans (Vi.out.bw.mono KS1.out.be.size)⟩
end Go.Proofs.YtmfmmopnapchjaaDoor
