/- The laws of layer 25: treeOf: a tree as the program's, with lists of its own. What is reserved in a tree, both sides; the reference's Find. -/
import Derived.Test.YtophilmjfdhhaaaGreatDoorIa
namespace Go.Proofs.YtophilmjfdhhaaaGreatDoor
open Go Go.RowKit Go.Shelf Go.Sort
set_option linter.unusedVariables false
set_option linter.unusedSimpArgs false
set_option maxRecDepth 100000
set_option maxHeartbeats 4000000

/-- 'append(nil, l...)' of whole numbers: its run. -/
theorem run_copyRI {P : Program} {w0 : World} (t ty : TypeId) (base : Nat) (e : TypeId) (i : TypeInfo) (z : Value) (ht : P.underlying t = some (.slice e)) (hi : P.info? e = some i) (hz : i.zero = some z)
    (hsize : i.size = 1) (hby : i.bytes = 8) (hzs : z.cells.size = 1) (u : Value) (l : List Int) (hu : RI w0 u l) (hbytes : l.length * 8 ≤ 140737488355328) (hbase : base ≤ w0.heap.size) :
    ∃ v' w', (Builtin.append_ #[t, t] ty #[.slice none 0 0, u]).run P w0 = .ok v' w' ∧ w'.ownsRow base e 1 v' l.length (l.map (Value.int .i64)) ∧ Below w0.heap.size w0 w' := by
  have hown : w0.ownsRow base e 1 (.slice none 0 0) 0 [] := World.ownsRow_nil _ _ _ _
  have bw : ∀ w', w0.grownBy w' (Value.slice none 0 0).ownBlock → Below w0.heap.size w0 w' := fun w' hg => below_own (Below.refl _ _) (Nat.le_refl _) (World.ownsRow_nil w0 w0.heap.size e 1) hg
  have one : ∀ y ∈ l.map (Value.int .i64), y.oneCell' = true := by
    intro y hy
    obtain ⟨q, _, rfl⟩ := List.mem_map.1 hy
    rfl
  rcases hu with ⟨rfl, ad, cap, rfl, hn⟩ | ⟨b, off, cap, rfl, hlt, hc⟩
  · rcases ad with _ | ad
    · obtain rfl := hn rfl
      exact ⟨_, w0, run_append_owned_none (w := w0) base t ty e i 1 ht hi _ 0 [] hown, hown, Below.refl _ _⟩
    · obtain ⟨v', w', h1, h2, h3, _⟩ := run_append_own_at (P := P) w0 base t ty e i z 1 8 ht hi hz hsize hby hzs (by decide) _ 0 [] hown ad 0 cap [] rfl (by intro j y hj; simp at hj) (by intro y hy; simp at hy) (by unfold maxLen; simp) (by simp) hbase
      exact ⟨v', w', h1, by simpa using h2, bw w' h3⟩
  · obtain ⟨v', w', h1, h2, h3, _⟩ := run_append_own_at (P := P) w0 base t ty e i z 1 8 ht hi hz hsize hby hzs (by decide) _ 0 [] hown ⟨b, off, none⟩ l.length cap (l.map (Value.int .i64)) (by simp) (by
      intro j y hj
      have hjl : j < l.length := by
        rcases Nat.lt_or_ge j l.length with h | h
        · exact h
        · rw [List.getElem?_eq_none (by simpa using h)] at hj; cases hj
      rw [List.getElem?_map, List.getElem?_eq_getElem hjl] at hj
      simp at hj
      subst hj
      have hp : (⟨b, off, none⟩ : Addr).add j = ⟨b, off + j, none⟩ := by unfold Addr.add; split <;> simp_all
      rw [hp, hc j hjl, List.getD, List.getElem?_eq_getElem hjl]
      rfl) one (by unfold maxLen; omega) (by simpa using hbytes) hbase
    exact ⟨v', w', h1, by simpa using h2, bw w' h3⟩
/-- .. at the list of a plain region. -/
theorem copyRI {P : Program} {ops : Array Oper} {rest : List Oper} {o : Oper} {a : Act} {Q : Exit → Act → World → Prop} {w0 : World} (hgd : o.guard = none) (s x : Operand) (t : TypeId)
    (ho : o.op = .call { callee := .builtin .append, args := #[s, x], argTypes := #[t, t] })
    (base : Nat) (e : TypeId) (i : TypeInfo) (z : Value) (ht : P.underlying t = some (.slice e)) (hi : P.info? e = some i) (hz : i.zero = some z)
    (hsize : i.size = 1) (hby : i.bytes = 8) (hzs : z.cells.size = 1) (hs : a.eval s = .slice none 0 0) (u : Value) (l : List Int) (hx : a.eval x = u) (hu : RI w0 u l) (hbytes : l.length * 8 ≤ 140737488355328) (hbase : base ≤ w0.heap.size)
    (h : ∀ v' w', w'.ownsRow base e 1 v' l.length (l.map (Value.int .i64)) → Below w0.heap.size w0 w' → wpList P ops Q rest (a.put o.dst v') w') :
    wpList P ops Q (o :: rest) a w0 := by
  obtain ⟨v', w', h1, h2, h3⟩ := run_copyRI (P := P) t o.type base e i z ht hi hz hsize hby hzs u l hu hbytes hbase
  refine wpList_plain hgd fun K hK => ?_
  unfold Oper.wp
  simp [execOp, ho, resolve, invoke, builtin, hs, hx, h1, Result.andThen]
  exact hK _ _ (h v' w' h2 h3)
/-- .. met in a region that draws its order. -/
theorem step_copyRI {P : Program} {ops : Array Oper} {o : Oper} {a : Act} {K : Act → World → Prop} {Q : Exit → Act → World → Prop} {E : Prop} {w0 : World} (hgd : o.guard = none) (s x : Operand) (t : TypeId)
    (ho : o.op = .call { callee := .builtin .append, args := #[s, x], argTypes := #[t, t] })
    (base : Nat) (e : TypeId) (i : TypeInfo) (z : Value) (ht : P.underlying t = some (.slice e)) (hi : P.info? e = some i) (hz : i.zero = some z)
    (hsize : i.size = 1) (hby : i.bytes = 8) (hzs : z.cells.size = 1) (hs : a.eval s = .slice none 0 0) (u : Value) (l : List Int) (hx : a.eval x = u) (hu : RI w0 u l) (hbytes : l.length * 8 ≤ 140737488355328) (hbase : base ≤ w0.heap.size)
    (h : ∀ v' w', w'.ownsRow base e 1 v' l.length (l.map (Value.int .i64)) → Below w0.heap.size w0 w' → K (a.put o.dst v') w') :
    if Region.wanted o (yielded ops a.tmps) = true then Oper.wp P o a w0 K Q else E := by
  have hw : Region.wanted o (yielded ops a.tmps) = true := by simp [Region.wanted, hgd]
  rw [if_pos hw]
  obtain ⟨v', w', h1, h2, h3⟩ := run_copyRI (P := P) t o.type base e i z ht hi hz hsize hby hzs u l hu hbytes hbase
  unfold Oper.wp execOp
  simp only [ho, resolve, invoke, builtin, Sem.run_bind, Sem.run_pure, Result.andThen_ok, List.map_toArray, List.map_cons, List.map_nil, hs, hx, h1]
  exact h v' w' h2 h3
/-- A tree that is being built, as it lies in memory. -/
def TS (w : World) (P : Nat) (t : Tr) : Prop :=
  ∃ v1 v2 cs, w.heap[P]? = some (.cells #[v1, v2] 25) ∧ w.ownsRow (P + 1) 45 5 v1 t.items.length cs ∧ IC w (fun k => v1.ownBlock = some k ∨ k ≤ P) cs t.items ∧ RI w v2 t.slack ∧ (∀ k, v2.ownBlock = some k → ¬ (v1.ownBlock = some k ∨ k ≤ P) ∧ k < w.heap.size) ∧ v1.ownBlock ≠ some P
theorem TS.lt {w : World} {P : Nat} {t : Tr} (h : TS w P t) : P < w.heap.size := by
  obtain ⟨v1, v2, cs, h1, _⟩ := h
  exact blk_lt h1
theorem TS.below {w w' : World} {P : Nat} {t : Tr} (h : TS w P t) (hb : Below w.heap.size w w') : TS w' P t := by
  obtain ⟨v1, v2, cs, h1, h2, h3, h4, h5, h6⟩ := h
  exact ⟨v1, v2, cs, blk_below h1 hb, own_below1 h2 hb, h3.move hb.size (fun k hk _ => hb.block k hk) (fun k _ hn => hn), h4.below hb, fun k hk => ⟨(h5 k hk).1, Nat.lt_of_lt_of_le (h5 k hk).2 hb.size⟩, h6⟩
theorem TS.later {w w' : World} {P : Nat} {t : Tr} (h : TS w P t) (hb : Below w.heap.size w w') : ∃ v1 v2 cs, w'.heap[P]? = some (.cells #[v1, v2] 25) ∧ w'.ownsRow (P + 1) 45 5 v1 t.items.length cs ∧ IC w' (fun k => v1.ownBlock = some k ∨ k ≤ P) cs t.items ∧ RI w' v2 t.slack ∧ (∀ k, v2.ownBlock = some k → ¬ (v1.ownBlock = some k ∨ k ≤ P) ∧ k < w'.heap.size) ∧ v1.ownBlock ≠ some P ∧ ∀ k, v1.ownBlock = some k → k < w.heap.size := by
  obtain ⟨v1, v2, cs, h1, h2, h3, h4, h5, h6⟩ := h
  exact ⟨v1, v2, cs, blk_below h1 hb, own_below1 h2 hb, h3.move hb.size (fun k hk _ => hb.block k hk) (fun k _ hn => hn), h4.below hb, fun k hk => ⟨(h5 k hk).1, Nat.lt_of_lt_of_le (h5 k hk).2 hb.size⟩, h6, (RI_own_block h2).2⟩
theorem tree_snoc {w w1 : World} {P : Nat} {t : Tr} {v1 v2 v' u : Value} {cs : List Value} {x : It}
    (h1 : w.heap[P]? = some (.cells #[v1, v2] 25)) (h3 : IC w (fun k => v1.ownBlock = some k ∨ k ≤ P) cs t.items) (h4 : RI w v2 t.slack) (h5 : ∀ k, v2.ownBlock = some k → ¬ (v1.ownBlock = some k ∨ k ≤ P) ∧ k < w.heap.size) (h6 : v1.ownBlock ≠ some P)
    (hu : RI w u x.pr) (hu2 : ∀ k, u.ownBlock = some k → ¬ (v1.ownBlock = some k ∨ k ≤ P) ∧ k < w.heap.size)
    (hg : Grew w w1 v1 v') (ho : w1.ownsRow (P + 1) 45 5 v' (t.items.length + 1) (cs ++ [str x.nm, .int .i64 x.par, .int .i64 x.q, .int .i64 x.p, u])) :
    TS (w1.setCell ⟨P, 0, none⟩ v') P ⟨t.items ++ [x], t.slack⟩ := by
  have hP := blk_lt h1
  have hvP : v'.ownBlock ≠ some P := fun e => by rcases hg.own P e with h | h; exact h6 h; omega
  have N1 : ∀ k, k < w.heap.size → ¬ (v1.ownBlock = some k ∨ k ≤ P) → ¬ (v'.ownBlock = some k ∨ k ≤ P) := by
    rintro k hk hn (h | h)
    · rcases hg.own k h with h | h
      · exact hn (.inl h)
      · omega
    · exact hn (.inr h)
  have MV : ∀ k, k < w.heap.size → ¬ (v1.ownBlock = some k ∨ k ≤ P) → (w1.setCell ⟨P, 0, none⟩ v').heap[k]? = w.heap[k]? := fun k hk hn => by
    rw [blk_set_other (fun e => hn (.inr (Nat.le_of_eq e)))]
    exact hg.block k hk (fun e => hn (.inl e))
  have SZ : w.heap.size ≤ (w1.setCell ⟨P, 0, none⟩ v').heap.size := by simpa using hg.size
  refine ⟨v', v2, _, ?_, by simpa using ownsRow_setCell_other ho (a := ⟨P, 0, none⟩) hvP v', ?_, ?_, ?_, hvP⟩
  · exact blk_set ((hg.block P hP h6).trans h1) 0 v'
  · exact (h3.move SZ MV N1).snoc (hu.of_block SZ (fun k hk => MV k (hu2 k hk).2 (hu2 k hk).1)) (fun k hk => ⟨N1 k (hu2 k hk).2 (hu2 k hk).1, by have := (hu2 k hk).2; omega⟩)
  · exact h4.of_block SZ (fun k hk => MV k (h5 k hk).2 (h5 k hk).1)
  · exact fun k hk => ⟨N1 k (h5 k hk).2 (h5 k hk).1, by have := (h5 k hk).2; omega⟩
theorem tree_start {w : World} {P : Nat} {v2 : Value} {l : List Int} {n B : Nat} (h1 : w.heap[P]? = some (.cells #[.slice none 0 0, v2] 25)) (ho : w.ownsRow B 3 1 v2 n (l.map (Value.int .i64))) (hB : P < B) : TS w P ⟨[], l⟩ := by
  refine ⟨.slice none 0 0, v2, [], h1, World.ownsRow_nil _ _ _ _, trivial, RI_own ho, fun k hk => ⟨?_, ?_⟩, by intro h; cases h⟩
  · rintro (h | h)
    · cases h
    · have := (RI_own_block ho).1 k hk; omega
  · exact (RI_own_block ho).2 k hk
theorem results_cell1 {fn : Func} {p : Tmp} {ty : TypeId} (h : fn.results = #[.cell p ty]) (tmps : Array Value) (P : Program) (w : World) :
    (results fn tmps).run P w = ((asAddr (tmps.getD p undef)).run P w).andThen fun a w₁ => (loadVar ty a).run P w₁ := by
  simp only [results, h]
  simp [Sem.run_bind, Result.andThen]
/-- What treeOf leaves. -/
def TreeP (t : Tr) (W : World) (e : Ending) (w' : World) : Prop := ∃ v1 v2, e = .returned (.agg #[v1, v2]) ∧ RT w' v1 t.items ∧ RI w' v2 t.slack ∧ Below W.heap.size W w'
abbrev itObj (nm : List UInt8) (par q p : Int) (u : Value) : Obj := .cells #[str nm, .int .i64 par, .int .i64 q, .int .i64 p, u] 45
theorem treeOf_c (t : Tr) (v1 v2 : Value) (W : World) (h1 : RT W v1 t.items) (h2 : RI W v2 t.slack) (hl : t.items.length ≤ 1000000000) (hs : t.slack.length * 8 ≤ 140737488355328) (hp : ∀ x ∈ t.items, x.pr.length * 8 ≤ 140737488355328) :
    Calls Tryz.prog 15 #[.agg #[v1, v2]] W (TreeP t W) := by
  obtain ⟨p1, c1, rfl, _, _, hit⟩ := h1.out
  obtain ⟨p2, c2, rfl⟩ := RI_form h2
  have HIT := Lib.hid hit
  obtain ⟨w0, hw0⟩ : ∃ w0, w0 = ((W.alloc (rtrObj (.slice p1 t.items.length c1) (.slice p2 t.slack.length c2))).alloc (trObj (.slice none 0 0) (.slice none 0 0))).alloc (trObj (.slice none 0 0) (.slice none 0 0)) := ⟨_, rfl⟩
  have CT0 : w0.heap[W.heap.size]? = some (rtrObj (.slice p1 t.items.length c1) (.slice p2 t.slack.length c2)) := by rw [hw0]; exact blk_alloc (blk_alloc (new_blk _) _) _
  have CR0 : w0.heap[W.heap.size + 1]? = some (trObj (.slice none 0 0) (.slice none 0 0)) := by rw [hw0]; exact blk_alloc (new_blk1 W _ _) _
  have CP0 : w0.heap[W.heap.size + 1 + 1]? = some (trObj (.slice none 0 0) (.slice none 0 0)) := by
    rw [hw0]
    have := new_blk1 (W.alloc (rtrObj (.slice p1 t.items.length c1) (.slice p2 t.slack.length c2))) (trObj (.slice none 0 0) (.slice none 0 0)) (trObj (.slice none 0 0) (.slice none 0 0))
    simpa using this
  have B0 : Hid (Below W.heap.size W w0) := Lib.hid (by rw [hw0]; exact (((Below.refl _ _).alloc (Nat.le_refl _) _).alloc (by simp) _).alloc (by simp; omega) _)
  have HW0 := Lib.hid hw0
  have CT := Lib.hid CT0
  have CR := Lib.hid CR0
  have CP := Lib.hid CP0
  have hSZ : W.heap.size + 1 + 1 + 1 = w0.heap.size := by rw [hw0]; simp
  have HSZ := Lib.hid hSZ
  obtain ⟨i0, hi, hz0, hz1, hz2⟩ := info_of1F Tryz.infoIntF
  obtain ⟨j0, hj, hy0, hy1, hy2⟩ := info_of1F Tryz.infoItem
  have HP : Hid (∀ i, i < t.items.length → (t.items.getD i default).pr.length * 8 ≤ 140737488355328) := Lib.hid (fun i hi => by rw [List.getD, List.getElem?_eq_getElem hi]; exact hp _ (List.getElem_mem hi))
  have H2 := Lib.hid (h2.below B0.out)
  have HS := Lib.hid hs
  have hli : (t.items.length : Int) ≤ 1000000000 := by omega
  have t1 := blk_cell (j := 1) (v := .slice p2 t.slack.length c2) CT.out rfl
  have t0' := blk_cell (j := 0) (v := .slice p1 t.items.length c1) CT.out rfl
  have q0 := blk_cell (j := 0) (v := .slice none 0 0) CP.out rfl
  have q1 := blk_cell (j := 1) (v := .slice none 0 0) CP.out rfl
  clear h1 h2 hit hw0 CT0 CR0 CP0 hs hp hSZ
  go_enter Tryz.func15, Tryz.ntmps15
  go_upto_region 2 with fail
  rw [← HW0.out]
  obtain ⟨P, hP⟩ : ∃ P, P = W.heap.size + 1 + 1 := ⟨_, rfl⟩
  have HPE := Lib.hid hP
  rw [← hP] at CP q0 q1
  simp only [← hP]
  clear hP
  go_wp2_with (at_builtin; refine copyRI rfl _ _ 23 rfl w0.heap.size 3 i0 _ Tryz.underlying23 hi hz0 hz1 hz2 rfl rfl _ t.slack rfl H2.out HS.out (Nat.le_refl _) ?_; intro u2 w1 hown1 hbe1; obtain ⟨a2, k2, rfl⟩ := own_form1 hown1; have XP1 := Lib.hid (blk_below CP.out hbe1); have q0' := blk_cell (j := 0) (v := .slice none 0 0) XP1.out rfl; have q1' := blk_cell (j := 1) (v := .slice none 0 0) XP1.out rfl; have qf' := fun i => blk_frozen XP1.out i; have OW1 := Lib.hid hown1; have HB1 := Lib.hid hbe1)
  have hPlt : P < w0.heap.size := by have h1 := HSZ.out; have h2 := HPE.out; omega
  have TS1 : Hid (TS (w1.setCell ⟨P, 1, none⟩ (.slice a2 t.slack.length k2)) P ⟨t.items.take 0, t.slack⟩) := Lib.hid (tree_start (blk_set XP1.out 1 _) (by simpa using ownsRow_setCell_other OW1.out (a := ⟨P, 1, none⟩) (fun e => by have := (RI_own_block OW1.out).1 P e; omega) (.slice a2 t.slack.length k2)) hPlt)
  have hT0P : W.heap.size ≠ P := by have h2 := HPE.out; omega
  have hT1P : W.heap.size + 1 ≠ P := by have h2 := HPE.out; omega
  have hTP : W.heap.size ≤ P := by have h2 := HPE.out; omega
  have CT1 : Hid ((w1.setCell ⟨P, 1, none⟩ (.slice a2 t.slack.length k2)).heap[W.heap.size]? = some (rtrObj (.slice p1 t.items.length c1) (.slice p2 t.slack.length c2))) := Lib.hid ((blk_set_other hT0P _ _).trans (blk_below CT.out HB1.out))
  have CR1 : Hid ((w1.setCell ⟨P, 1, none⟩ (.slice a2 t.slack.length k2)).heap[W.heap.size + 1]? = some (trObj (.slice none 0 0) (.slice none 0 0))) := Lib.hid ((blk_set_other hT1P _ _).trans (blk_below CR.out HB1.out))
  have BB1 : Hid (Below W.heap.size W (w1.setCell ⟨P, 1, none⟩ (.slice a2 t.slack.length k2))) := Lib.hid ((B0.out.trans (HB1.out.mono B0.out.size)).setCell (p := ⟨P, 1, none⟩) hTP _)
  have HT0P := Lib.hid hT0P
  have HT1P := Lib.hid hT1P
  have HTP := Lib.hid hTP
  clear q0 q1 q0' q1' qf' t0' t1 hT0P hT1P hTP hPlt
  go_wp2_with fail
  go_loopw [4] (fun iv wr => ∃ k : Nat, iv = .int .i64 k ∧ k ≤ t.items.length ∧ Hid (TS wr P ⟨t.items.take k, t.slack⟩) ∧ Hid (wr.heap[W.heap.size]? = some (rtrObj (.slice p1 t.items.length c1) (.slice p2 t.slack.length c2))) ∧ Hid (wr.heap[W.heap.size + 1]? = some (trObj (.slice none 0 0) (.slice none 0 0))) ∧ Hid (Below W.heap.size W wr)) (fun iv _ => t.items.length - (intOf iv).toNat)
  case atStart => exact ⟨0, by go_num, Nat.zero_le _, TS1, CT1, CR1, BB1⟩
  case round =>
    obtain ⟨k, rfl, hk, hts, hct, hcr, hbe⟩ := hrel
    have hki : (k : Int) ≤ 1000000000 := by omega
    have hTw : W.heap.size < wr.heap.size := blk_lt hct.out
    have hPw : P < wr.heap.size := hts.out.lt
    by_cases hlt : k < t.items.length
    · have hlt' : (k : Int) < (t.items.length : Int) := by omega
      have hk0 : (0 : Int) ≤ (k : Int) := by omega
      have hk1 : k + 1 ≤ t.items.length := hlt
      obtain ⟨b, o, rfl, hb, hx⟩ := HIT.out (by omega)
      obtain ⟨x0, x1, x2, x3, z, x4, hz⟩ := (hx k hlt).below hb hbe.out
      obtain ⟨az, cz, rfl⟩ := RI_form hz
      have RZ := Lib.hid hz
      have g0 := blk_cell (j := 0) (v := .slice (some ⟨b, o, none⟩) t.items.length c1) hct.out rfl
      have PRk := Lib.hid (HP.out k hlt)
      have TK := Lib.hid (take_it hlt)
      have hbw : b < wr.heap.size := Nat.lt_of_lt_of_le hb hbe.out.size
      generalize t.items.getD k default = x at *
      have KQ : Hid (∀ w', Below wr.heap.size wr w' → w'.cell? ⟨W.heap.size, 0, none⟩ = some (.slice (some ⟨b, o, none⟩) t.items.length c1) ∧ w'.cell? ⟨b, o + k * 5, none⟩ = some (str x.nm) ∧ w'.cell? ⟨b, o + k * 5 + 1, none⟩ = some (.int .i64 x.par) ∧ w'.cell? ⟨b, o + k * 5 + 2, none⟩ = some (.int .i64 x.q) ∧ w'.cell? ⟨b, o + k * 5 + 3, none⟩ = some (.int .i64 x.p)) := Lib.hid (fun w' h => ⟨(h.cell (p := ⟨W.heap.size, 0, none⟩) hTw).trans g0, (h.cell (p := ⟨b, o + k * 5, none⟩) hbw).trans x0, (h.cell (p := ⟨b, o + k * 5 + 1, none⟩) hbw).trans x1, (h.cell (p := ⟨b, o + k * 5 + 2, none⟩) hbw).trans x2, (h.cell (p := ⟨b, o + k * 5 + 3, none⟩) hbw).trans x3⟩)
      have KZ : Hid (∀ w', Below wr.heap.size wr w' → w'.cell? ⟨W.heap.size, 0, none⟩ = some (.slice (some ⟨b, o, none⟩) t.items.length c1) ∧ w'.cell? ⟨b, o + k * 5 + 4, none⟩ = some (.slice az x.pr.length cz)) := Lib.hid (fun w' h => ⟨(h.cell (p := ⟨W.heap.size, 0, none⟩) hTw).trans g0, (h.cell (p := ⟨b, o + k * 5 + 4, none⟩) hbw).trans x4⟩)
      clear hlt hx hz x0 x1 x2 x3 x4
      go_upto_region 6 with fail
      go_cut [5] (fun s w => ∃ (wx : World) (X : Nat), wx = w ∧ s = .pointer (some ⟨X, 0, none⟩) ∧ wr.heap.size ≤ X ∧ Hid (w.heap[X]? = some (itObj x.nm x.par x.q x.p (.slice none 0 0))) ∧ Hid (Below wr.heap.size wr w))
      case first =>
        have hqd := (Below.refl wr.heap.size wr).drew
        have hqa : Below wr.heap.size wr (wr.alloc (.cells #[.string ⟨#[]⟩, .int .i64 0, .int .i64 0, .int .i64 0, .slice none 0 0] 45)).drew := ((Below.refl wr.heap.size wr).alloc (Nat.le_refl _) _).drew
        have hqb : Below wr.heap.size wr (wr.alloc (itObj x.nm x.par x.q x.p (.slice none 0 0))).drew := ((Below.refl wr.heap.size wr).alloc (Nat.le_refl _) _).drew
        go_region_held3 (fun w' => w'.cell? ⟨W.heap.size, 0, none⟩ = some (.slice (some ⟨b, o, none⟩) t.items.length c1) ∧ w'.cell? ⟨b, o + k * 5, none⟩ = some (str x.nm) ∧ w'.cell? ⟨b, o + k * 5 + 1, none⟩ = some (.int .i64 x.par) ∧ w'.cell? ⟨b, o + k * 5 + 2, none⟩ = some (.int .i64 x.q) ∧ w'.cell? ⟨b, o + k * 5 + 3, none⟩ = some (.int .i64 x.p)) ((first | exact KQ.out _ hqd | exact KQ.out _ hqa | exact KQ.out _ hqb)) (fail)
        all_goals
          go_wp2_with fail
          go_meet
          exact ⟨_, wr.heap.size, rfl, rfl, Nat.le_refl _, Lib.hid (new_blk (w := wr) _), Lib.hid hqb⟩
      case rest =>
        obtain ⟨w7, X, rfl, rfl, hX, hxb, hb7⟩ := hcut
        have RZ7 := Lib.hid (RZ.out.below hb7.out)
        have XLT := blk_lt hxb.out
        have xx4 := blk_cell (j := 4) (v := .slice none 0 0) hxb.out rfl
        have KX : Hid (∀ w', Below w7.heap.size w7 w' → w'.cell? ⟨W.heap.size, 0, none⟩ = some (.slice (some ⟨b, o, none⟩) t.items.length c1) ∧ w'.cell? ⟨b, o + k * 5 + 4, none⟩ = some (.slice az x.pr.length cz) ∧ w'.cell? ⟨X, 4, none⟩ = some (.slice none 0 0)) := Lib.hid (fun w' h => ⟨(KZ.out _ (hb7.out.trans (h.mono hb7.out.size))).1, (KZ.out _ (hb7.out.trans (h.mono hb7.out.size))).2, (h.cell (p := ⟨X, 4, none⟩) XLT).trans xx4⟩)
        clear KQ
        go_upto_region 7 with fail
        go_cut [5] (fun s w => ∃ (wx : World) (pu : Option Addr) (nu cu : Nat), wx = w ∧ s = .pointer (some ⟨X, 0, none⟩) ∧ Hid (w.heap[X]? = some (itObj x.nm x.par x.q x.p (.slice pu nu cu))) ∧ Hid (RI w (.slice pu nu cu) x.pr ∧ ∀ j, (Value.slice pu nu cu).ownBlock = some j → wr.heap.size ≤ j ∧ j < w.heap.size) ∧ Hid (Below wr.heap.size wr w))
        case first =>
          have hqd := (Below.refl w7.heap.size w7).drew
          have RZd := Lib.hid (RZ7.out.below hqd)
          have NLE := Lib.hid (Nat.le_refl w7.heap.size)
          have gz0 := (KX.out w7 (Below.refl _ _)).1
          have gz4 := (KX.out w7 (Below.refl _ _)).2.1
          clear g0
          go_region_law ((refine step_copyRI (by rfl) _ _ 23 (by rfl) w7.heap.size 3 i0 _ Tryz.underlying23 hi hz0 hz1 hz2 rfl (by rfl) _ x.pr (by rfl) RZd.out PRk.out NLE.out ?_; intro u3 w3 hown3 hbe3; obtain ⟨a3, k3, rfl⟩ := own_form1 hown3; have hq3 := hqd.trans hbe3; have XP3 := Lib.hid (blk_below hxb.out hq3); have xx4' := blk_cell (j := 4) (v := .slice none 0 0) XP3.out rfl; have xf3 := fun i => blk_frozen XP3.out i; have OW3 := Lib.hid hown3))
          all_goals
            go_wp2_with fail
            go_meet
            exact ⟨_, _, _, _, rfl, rfl, Lib.hid (blk_set XP3.out 4 _), Lib.hid ⟨(RI_own OW3.out).of_block (by simp) (fun j hj => blk_set_other (fun e => by have := (RI_own_block OW3.out).1 j hj; omega) _ _), fun j hj => ⟨Nat.le_trans hb7.out.size ((RI_own_block OW3.out).1 j hj), by simpa using (RI_own_block OW3.out).2 j hj⟩⟩, Lib.hid ((hb7.out.trans (hq3.mono hb7.out.size)).setCell (p := ⟨X, 4, none⟩) hX _)⟩
        case rest =>
          obtain ⟨w8, pu, nu, cu, rfl, rfl, hxb8, hru, hb8⟩ := hcut
          obtain ⟨v1, v2', cs, K1, K2, K3, K4, K5, K6, K7⟩ := hts.out.later hb8.out
          have hlk : (t.items.take k).length = k := by simp; omega
          have K2' : w8.ownsRow (P + 1) 45 5 v1 k cs := by rw [← hlk]; exact K2
          obtain ⟨a1, k1, rfl⟩ := own_form1 K2'
          obtain ⟨a2', k2', rfl⟩ := RI_form K4
          have HK1 := Lib.hid K1
          have HK2 := Lib.hid K2'
          have HLK := Lib.hid hlk
          have SN : Hid (∀ w1 v', Grew w8 w1 (.slice a1 k k1) v' → w1.ownsRow (P + 1) 45 5 v' (k + 1) (cs ++ [str x.nm, .int .i64 x.par, .int .i64 x.q, .int .i64 x.p, .slice pu nu cu]) → TS (w1.setCell ⟨P, 0, none⟩ v') P ⟨t.items.take (k + 1), t.slack⟩) := Lib.hid (fun w1 v' hg ho => by
            rw [TK.out]
            exact tree_snoc (t := ⟨t.items.take k, t.slack⟩) K1 K3 K4 K5 K6 hru.out.1 (fun j hj => ⟨fun h => by
              have h1 := (hru.out.2 j hj).1
              rcases h with h | h
              · have := K7 j h; omega
              · omega, (hru.out.2 j hj).2⟩) hg (by rw [HLK.out]; exact ho))
          have HK6 := Lib.hid K6
          have xc0 := blk_cell (j := 0) (v := str x.nm) hxb8.out rfl
          have xc1 := blk_cell (j := 1) (v := .int .i64 x.par) hxb8.out rfl
          have xc2 := blk_cell (j := 2) (v := .int .i64 x.q) hxb8.out rfl
          have xc3 := blk_cell (j := 3) (v := .int .i64 x.p) hxb8.out rfl
          have xc4 := blk_cell (j := 4) (v := .slice pu nu cu) hxb8.out rfl
          have pc0 := blk_cell (j := 0) (v := .slice a1 k k1) HK1.out rfl
          have ONE : Hid (∀ u ∈ [str x.nm, Value.int .i64 x.par, .int .i64 x.q, .int .i64 x.p, .slice pu nu cu], u.oneCell' = true) := Lib.hid (by
            intro u hu
            simp only [List.mem_cons, List.not_mem_nil, or_false] at hu
            rcases hu with rfl | rfl | rfl | rfl | rfl <;> rfl)
          have M1 : Hid (k + 1 ≤ maxLen) := Lib.hid (by unfold maxLen; omega)
          have M2 : Hid ((k + 1) * 64 ≤ 140737488355328) := Lib.hid (by omega)
          have BS : Hid (P + 1 ≤ w8.heap.size) := Lib.hid (blk_lt K1)
          have BB := Lib.hid (Below.refl (P + 1) w8)
          have B8W := Lib.hid (hbe.out.trans (hb8.out.mono hbe.out.size))
          have HCT8 := Lib.hid (blk_below hct.out hb8.out)
          have HCR8 := Lib.hid (blk_below hcr.out hb8.out)
          clear K1 K2 K2' K3 K4 K5 K6 K7 hlk xx4
          go_wp2_with (at_builtin; refine appendN2 (W := w8) rfl _ _ 22 rfl (P + 1) 45 j0 _ 5 64 Tryz.underlying22 hj hy0 hy1 hy2 rfl (by decide) _ _ _ rfl HK2.out _ [str x.nm, .int .i64 x.par, .int .i64 x.q, .int .i64 x.p, .slice pu nu cu] _ rfl rfl rfl ONE.out M1.out M2.out BS.out BB.out ?_; intro v' w3 hown3 hbe3 hgr; obtain ⟨a3, k3, rfl⟩ := own_form1 hown3; have GR := Lib.hid hgr; have OW3 := Lib.hid hown3; have HB3 := Lib.hid hbe3; have XP3 := Lib.hid ((hgr.block P (blk_lt HK1.out) HK6.out).trans HK1.out); have pc0' := blk_cell (j := 0) (v := .slice a1 k k1) XP3.out rfl; have pf3 := fun i => blk_frozen XP3.out i)
          go_roundw
          case rel => exact ⟨k + 1, by go_num, hk1, Lib.hid (SN.out _ _ GR.out OW3.out), Lib.hid ((blk_set_other HT0P.out _ _).trans ((HB3.out.block _ (by have := HTP.out; omega)).trans HCT8.out)), Lib.hid ((blk_set_other HT1P.out _ _).trans ((HB3.out.block _ (by have := HT1P.out; have := HTP.out; have := HPE.out; omega)).trans HCR8.out)), Lib.hid ((B8W.out.trans (HB3.out.mono (by have := HTP.out; omega))).setCell (p := ⟨P, 0, none⟩) HTP.out _)⟩
          case measure => show t.items.length - ((k : Int) + 1).toNat < t.items.length - ((k : Int)).toNat; omega
    · obtain rfl : k = t.items.length := by omega
      have hge : ¬ (t.items.length : Int) < (t.items.length : Int) := by omega
      have hts' : TS wr P t := by have := hts.out; rw [List.take_of_length_le (Nat.le_refl _)] at this; exact this
      obtain ⟨v1, v2', cs, K1, K2, K3, K4, K5, K6⟩ := hts'
      obtain ⟨a1, k1, rfl⟩ := own_form1 K2
      obtain ⟨a2', k2', rfl⟩ := RI_form K4
      have HK1 := Lib.hid K1
      have g0 := blk_cell (j := 0) (v := .slice p1 t.items.length c1) hct.out rfl
      have pc0 := blk_cell (j := 0) (v := .slice a1 t.items.length k1) HK1.out rfl
      have pc1 := blk_cell (j := 1) (v := .slice a2' t.slack.length k2') HK1.out rfl
      have rc0 := blk_cell (j := 0) (v := .slice none 0 0) hcr.out rfl
      have rc1 := blk_cell (j := 1) (v := .slice none 0 0) hcr.out rfl
      have rf := fun i => blk_frozen hcr.out i
      have HL := Lib.hid (tree_load (blk_set (blk_set hcr.out 0 (.slice a1 t.items.length k1)) 1 (.slice a2' t.slack.length k2')))
      have HB5 := Lib.hid ((hbe.out.setCell (p := ⟨W.heap.size + 1, 0, none⟩) (Nat.le_succ _) (.slice a1 t.items.length k1)).setCell (p := ⟨W.heap.size + 1, 1, none⟩) (Nat.le_succ _) (.slice a2' t.slack.length k2'))
      have FIN : Hid (RT ((wr.setCell ⟨W.heap.size + 1, 0, none⟩ (.slice a1 t.items.length k1)).setCell ⟨W.heap.size + 1, 1, none⟩ (.slice a2' t.slack.length k2')) (.slice a1 t.items.length k1) t.items ∧ RI ((wr.setCell ⟨W.heap.size + 1, 0, none⟩ (.slice a1 t.items.length k1)).setCell ⟨W.heap.size + 1, 1, none⟩ (.slice a2' t.slack.length k2')) (.slice a2' t.slack.length k2') t.slack) := Lib.hid (by
        have hRP : W.heap.size + 1 < P := by have := HPE.out; omega
        have MV : ∀ k, P ≤ k → ((wr.setCell ⟨W.heap.size + 1, 0, none⟩ (.slice a1 t.items.length k1)).setCell ⟨W.heap.size + 1, 1, none⟩ (.slice a2' t.slack.length k2')).heap[k]? = wr.heap[k]? := fun k hk => by
          rw [blk_set_other (by omega), blk_set_other (by omega)]
        have h3' := K3.move (w' := (wr.setCell ⟨W.heap.size + 1, 0, none⟩ (.slice a1 t.items.length k1)).setCell ⟨W.heap.size + 1, 1, none⟩ (.slice a2' t.slack.length k2')) (by simp) (fun k hk hn => MV k (Nat.le_of_lt (Nat.lt_of_not_le fun e => hn (.inr e)))) (fun k _ hn => hn)
        refine ⟨(RT_own (B := P + 1) (e := 45) (n := t.items.length) ?_ h3').1, K4.of_block (by simp) (fun k hk => MV k (Nat.le_of_lt (Nat.lt_of_not_le fun e => (K5 k hk).1 (.inr e))))⟩
        obtain ⟨g1, g2⟩ := K2
        refine ⟨g1, ?_⟩
        rcases g2 with g2 | ⟨g, cap, cur, hv, hg, hh, r⟩
        · exact .inl g2
        · exact .inr ⟨g, cap, cur, hv, hg, (MV g (by omega)).trans hh, r⟩)
      clear hlt K1 K2 K3 K4 K5 K6
      go_wp2_with fail
      refine bodyPost_ret (v := .agg #[.slice a1 t.items.length k1, .slice a2' t.slack.length k2']) ?_ rfl ⟨_, _, rfl, FIN.out.1, FIN.out.2, HB5.out⟩
      rw [results_cell1 rfl]
      have hld := HL.out
      simp [asAddr, Result.andThen, hld]
end Go.Proofs.YtophilmjfdhhaaaGreatDoor
namespace Go.Proofs.YtophilmjfdhhaaaGreatDoor
open Go Go.RowKit Go.Shelf Go.Sort
set_option linter.unusedVariables false
set_option linter.unusedSimpArgs false
set_option maxRecDepth 100000
set_option maxHeartbeats 4000000

/-- What is reserved under the root and under the first so many less one. -/
def unders (l : List It) (m : Nat) : List Int := (List.range m).map fun (i : Nat) => underG l ((i : Int) - 1)
theorem unders_zero (l : List It) : unders l 0 = [] := rfl
theorem unders_succ (l : List It) (m : Nat) : unders l (m + 1) = unders l m ++ [underG l ((m : Int) - 1)] := by unfold unders; rw [List.range_succ, List.map_append]; rfl
theorem unders_len (l : List It) (m : Nat) : (unders l m).length = m := by simp [unders]
def sharesS (t : Tr) : List Int × Int := if validS t ≠ 0 then ([], validS t) else (unders t.items (t.items.length + 1), 0)
theorem shares_c (t : Tr) (v1 v2 : Value) (W : World) (h1 : RT W v1 t.items) (h2 : RI W v2 t.slack) (hl : t.items.length ≤ 1000000000) (hs : t.slack.length ≤ 140737488355328) (hn : ∀ x ∈ t.items, x.nm.length ≤ 140737488355328) (hp : ∀ x ∈ t.items, x.pr.length ≤ 140737488355328) :
    Calls Tryz.prog 14 #[.agg #[v1, v2]] W fun e w' => ∃ v, e = .returned (.tuple #[v, errOf (sharesS t).2]) ∧ RI w' v (sharesS t).1 ∧ Below W.heap.size W w' := by
  obtain ⟨i0, hi, hz0, hz1, hz2⟩ := info_of1F Tryz.infoIntF
  obtain ⟨p1, c1, rfl, _⟩ := h1.out
  obtain ⟨p2, c2, rfl⟩ := RI_form h2
  obtain ⟨w0, hw0⟩ : ∃ w0, w0 = W.alloc (trObj (.slice p1 t.items.length c1) (.slice p2 t.slack.length c2)) := ⟨_, rfl⟩
  have b0 : Below W.heap.size W w0 := by rw [hw0]; exact (Below.refl _ _).alloc (Nat.le_refl _) _
  have CC : w0.heap[W.heap.size]? = some (trObj (.slice p1 t.items.length c1) (.slice p2 t.slack.length c2)) := by rw [hw0]; exact new_blk _
  have VC := Lib.hid (valid25_c t _ _ w0 (h1.below b0) (h2.below b0) hl hs hn hp)
  have HW := Lib.hid hw0
  have B0 := Lib.hid b0
  have HC := Lib.hid CC
  have FE : Hid (validS t ≠ 0 → sharesS t = ([], validS t)) := Lib.hid (fun h => if_pos h)
  have FO : Hid (validS t = 0 → sharesS t = (unders t.items (t.items.length + 1), 0)) := Lib.hid (fun h => if_neg (by simp [h]))
  have VOK := Lib.hid (fun h => valid_ok (t := t) h)
  have UC := Lib.hid (fun w (hb : Below W.heap.size W w) (hv : ∀ x ∈ t.items, itR x = true) par => by
    have := under_c t.items _ (.slice p2 t.slack.length c2) par t.items.length w (h1.below hb) (Nat.le_refl _) hl (fun x hx => hv x (List.mem_of_mem_take hx))
    rw [List.take_length] at this
    exact this)
  have c0 := blk_cell (j := 0) (v := .slice p1 t.items.length c1) HC.out rfl
  have c1' := blk_cell (j := 1) (v := .slice p2 t.slack.length c2) HC.out rfl
  have hT0 : W.heap.size < w0.heap.size := blk_lt CC
  have hli : (t.items.length : Int) ≤ 1000000000 := by omega
  generalize sharesS t = R at *
  generalize validS t = V at *
  clear h1 h2 hw0 b0 CC hs hn hp
  go_enter Tryz.func14, Tryz.ntmps14
  go_wp2_with fail
  rw [← HW.out]
  refine VC.out.mono ?_
  rintro e w1 ⟨rfl, hb1⟩
  have B1 := Lib.hid (B0.out.trans (hb1.mono B0.out.size))
  have CB1 := Lib.hid (blk_below HC.out hb1)
  clear hb1 VC
  by_cases hV : V = 0
  · rw [hV, errOf_zero]
    have HR := Lib.hid (FO.out hV)
    have OK := Lib.hid (VOK.out hV)
    have h63 := OK.out.2.1
    have UN := Lib.hid (fun w hb par => UC.out w hb (fun x hx => (OK.out.1 x hx).1) par)
    have LT1 : W.heap.size < w1.heap.size := blk_lt CB1.out
    have ST := Lib.hid (unders_zero t.items)
    have ST1 := Lib.hid (unders_succ t.items)
    have STL := Lib.hid (unders_len t.items)
    clear hV FE FO c0 c1' UC
    go_wp2_with fail
    go_loopw [5, 6] (fun ov iv wr => ∃ m : Nat, iv = .int .i64 ((m : Int) - 1) ∧ m ≤ t.items.length + 1 ∧ Hid (wr.ownsRow w1.heap.size 3 1 ov m ((unders t.items m).map (Value.int .i64))) ∧ Hid (Below w1.heap.size w1 wr)) (fun _ iv _ => (t.items.length - intOf iv).toNat)
    case atStart => exact ⟨0, by go_num, Nat.zero_le _, Lib.hid (by rw [ST.out]; exact World.ownsRow_nil _ _ _ _), Lib.hid (Below.refl _ _)⟩
    case round =>
      obtain ⟨m, rfl, hm, hown, hbe⟩ := hrel
      have hmi : (m : Int) ≤ 1000 := by omega
      have CBr := Lib.hid (blk_below CB1.out hbe.out)
      have BW := Lib.hid (B1.out.trans (hbe.out.mono (Nat.le_of_lt LT1)))
      have g0 := blk_cell (j := 0) (v := .slice p1 t.items.length c1) CBr.out rfl
      have g1 := blk_cell (j := 1) (v := .slice p2 t.slack.length c2) CBr.out rfl
      have LTr : W.heap.size < wr.heap.size := blk_lt CBr.out
      by_cases hml : m < t.items.length + 1
      · have hml' : (m : Int) - 1 < (t.items.length : Int) := by omega
        have hml2 : (m : Int) < (t.items.length : Int) + 1 := by omega
        have hm1 : m + 1 ≤ t.items.length + 1 := hml
        obtain ⟨a5, k5, rfl⟩ := own_form1 hown.out
        have UNm := Lib.hid (UN.out wr BW.out ((m : Int) - 1))
        have SU := Lib.hid (ST1.out m)
        have MB := Lib.hid (show m + 1 ≤ maxLen ∧ (m + 1) * 8 ≤ 140737488355328 from ⟨by unfold maxLen; omega, by omega⟩)
        have HSZ := Lib.hid hbe.out.size
        generalize underG t.items ((m : Int) - 1) = U at *
        clear hml
        go_wp2_with (first | (go_at_call 30; refine UNm.out.mono ?_; rintro e w2 ⟨rfl, hb2⟩; have OW2 := Lib.hid (own_below1 hown.out hb2); have BE2 := Lib.hid (hbe.out.trans (hb2.mono HSZ.out)); have SZ2 := Lib.hid BE2.out.size) | (at_builtin; refine appendN2 (W := w1) rfl _ _ 23 rfl w1.heap.size 3 i0 _ 1 8 Tryz.underlying23 hi hz0 hz1 hz2 rfl (by decide) _ _ _ rfl OW2.out _ [.int .i64 U] _ rfl rfl rfl (by intro u hu; simp at hu; subst hu; rfl) MB.out.1 MB.out.2 SZ2.out BE2.out ?_; intro m' w3 hown3 hbe3 hgr))
        go_roundw
        case rel => exact ⟨m + 1, by go_num, hm1, Lib.hid (by rw [SU.out, List.map_append]; exact hown3), Lib.hid hbe3⟩
        case measure => show ((t.items.length : Int) - (m : Int)).toNat < ((t.items.length : Int) - ((m : Int) - 1)).toNat; omega
      · obtain rfl : m = t.items.length + 1 := by omega
        have hml' : ¬ ((t.items.length + 1 : Nat) : Int) - 1 < (t.items.length : Int) := by omega
        obtain ⟨a5, k5, rfl⟩ := own_form1 hown.out
        clear hml
        go_wp2_with fail
        go_ret2
        exact ⟨_, by rw [HR.out]; rfl, by rw [HR.out]; exact RI_own hown.out, BW.out⟩
  · rw [errOf_ne hV]
    have HR := Lib.hid (FE.out hV)
    have HE := Lib.hid (errOf_ne hV)
    clear hV FE FO
    go_wp2_with fail
    go_ret2
    exact ⟨_, by rw [HR.out]; simp only; rw [HE.out]; rfl, by rw [HR.out]; exact RI_nil _, B1.out⟩
theorem rshares_c (t : Tr) (v1 v2 : Value) (W : World) (h1 : RT W v1 t.items) (h2 : RI W v2 t.slack) (hl : t.items.length ≤ 1000000000) (hs : t.slack.length ≤ 140737488355328) (hn : ∀ x ∈ t.items, x.nm.length ≤ 140737488355328) (hp : ∀ x ∈ t.items, x.pr.length ≤ 140737488355328) :
    Calls Tryz.prog 16 #[.agg #[v1, v2]] W fun e w' => ∃ v, e = .returned (.tuple #[v, .int .i64 (sharesS t).2]) ∧ RI w' v (sharesS t).1 ∧ Below W.heap.size W w' := by
  obtain ⟨i0, hi, hz0, hz1, hz2⟩ := info_of1F Tryz.infoIntF
  obtain ⟨p1, c1, rfl, _⟩ := h1.out
  obtain ⟨p2, c2, rfl⟩ := RI_form h2
  obtain ⟨w0, hw0⟩ : ∃ w0, w0 = W.alloc (rtrObj (.slice p1 t.items.length c1) (.slice p2 t.slack.length c2)) := ⟨_, rfl⟩
  have b0 : Below W.heap.size W w0 := by rw [hw0]; exact (Below.refl _ _).alloc (Nat.le_refl _) _
  have CC : w0.heap[W.heap.size]? = some (rtrObj (.slice p1 t.items.length c1) (.slice p2 t.slack.length c2)) := by rw [hw0]; exact new_blk _
  have VC := Lib.hid (rvalid25_c t _ _ w0 (h1.below b0) (h2.below b0) (by omega) hs hn hp)
  have HW := Lib.hid hw0
  have B0 := Lib.hid b0
  have HC := Lib.hid CC
  have FE : Hid (validS t ≠ 0 → sharesS t = ([], validS t)) := Lib.hid (fun h => if_pos h)
  have FO : Hid (validS t = 0 → sharesS t = (unders t.items (t.items.length + 1), 0)) := Lib.hid (fun h => if_neg (by simp [h]))
  have VOK := Lib.hid (fun h => valid_ok (t := t) h)
  have UC := Lib.hid (fun w (hb : Below W.heap.size W w) (hv : ∀ x ∈ t.items, itR x = true) par => runder_c t.items _ par w (h1.below hb) hl hv)
  have c0 := blk_cell (j := 0) (v := .slice p1 t.items.length c1) HC.out rfl
  have c1' := blk_cell (j := 1) (v := .slice p2 t.slack.length c2) HC.out rfl
  have hT0 : W.heap.size < w0.heap.size := blk_lt CC
  have hli : (t.items.length : Int) ≤ 1000000000 := by omega
  generalize sharesS t = R at *
  generalize validS t = V at *
  clear h1 h2 hw0 b0 CC hs hn hp
  go_enter Tryz.func16, Tryz.ntmps16
  go_wp2_with fail
  rw [← HW.out]
  refine VC.out.mono ?_
  rintro e w1 ⟨rfl, hb1⟩
  have B1 := Lib.hid (B0.out.trans (hb1.mono B0.out.size))
  have CB1 := Lib.hid (blk_below HC.out hb1)
  clear hb1 VC
  by_cases hV : V = 0
  · have HR := Lib.hid (FO.out hV)
    have OK := Lib.hid (VOK.out hV)
    have h63 := OK.out.2.1
    have UN := Lib.hid (fun w hb par => UC.out w hb (fun x hx => (OK.out.1 x hx).1) par)
    have LT1 : W.heap.size < w1.heap.size := blk_lt CB1.out
    have ST := Lib.hid (unders_zero t.items)
    have ST1 := Lib.hid (unders_succ t.items)
    have STL := Lib.hid (unders_len t.items)
    have hv0 : (V == 0) = true := by simpa using hV
    have hv1 : (V != 0) = false := by simpa using hV
    clear hV FE FO c0 c1' UC
    go_wp2_with fail
    go_loopw [5, 6] (fun ov iv wr => ∃ m : Nat, iv = .int .i64 ((m : Int) - 1) ∧ m ≤ t.items.length + 1 ∧ Hid (wr.ownsRow w1.heap.size 3 1 ov m ((unders t.items m).map (Value.int .i64))) ∧ Hid (Below w1.heap.size w1 wr)) (fun _ iv _ => (t.items.length - intOf iv).toNat)
    case atStart => exact ⟨0, by go_num, Nat.zero_le _, Lib.hid (by rw [ST.out]; exact World.ownsRow_nil _ _ _ _), Lib.hid (Below.refl _ _)⟩
    case round =>
      obtain ⟨m, rfl, hm, hown, hbe⟩ := hrel
      have hmi : (m : Int) ≤ 1000 := by omega
      have CBr := Lib.hid (blk_below CB1.out hbe.out)
      have BW := Lib.hid (B1.out.trans (hbe.out.mono (Nat.le_of_lt LT1)))
      have g0 := blk_cell (j := 0) (v := .slice p1 t.items.length c1) CBr.out rfl
      have LTr : W.heap.size < wr.heap.size := blk_lt CBr.out
      by_cases hml : m < t.items.length + 1
      · have hml' : (m : Int) - 1 < (t.items.length : Int) := by omega
        have hml2 : (m : Int) < (t.items.length : Int) + 1 := by omega
        have hm1 : m + 1 ≤ t.items.length + 1 := hml
        obtain ⟨a5, k5, rfl⟩ := own_form1 hown.out
        have UNm := Lib.hid (UN.out wr BW.out ((m : Int) - 1))
        have SU := Lib.hid (ST1.out m)
        have MB := Lib.hid (show m + 1 ≤ maxLen ∧ (m + 1) * 8 ≤ 140737488355328 from ⟨by unfold maxLen; omega, by omega⟩)
        have HSZ := Lib.hid hbe.out.size
        generalize underG t.items ((m : Int) - 1) = U at *
        clear hml
        go_wp2_with (first | (go_at_call 31; refine UNm.out.mono ?_; rintro e w2 ⟨rfl, hb2⟩; have OW2 := Lib.hid (own_below1 hown.out hb2); have BE2 := Lib.hid (hbe.out.trans (hb2.mono HSZ.out)); have SZ2 := Lib.hid BE2.out.size) | (at_builtin; refine appendN2 (W := w1) rfl _ _ 23 rfl w1.heap.size 3 i0 _ 1 8 Tryz.underlying23 hi hz0 hz1 hz2 rfl (by decide) _ _ _ rfl OW2.out _ [.int .i64 U] _ rfl rfl rfl (by intro u hu; simp at hu; subst hu; rfl) MB.out.1 MB.out.2 SZ2.out BE2.out ?_; intro m' w3 hown3 hbe3 hgr))
        go_roundw
        case rel => exact ⟨m + 1, by go_num, hm1, Lib.hid (by rw [SU.out, List.map_append]; exact hown3), Lib.hid hbe3⟩
        case measure => show ((t.items.length : Int) - (m : Int)).toNat < ((t.items.length : Int) - ((m : Int) - 1)).toNat; omega
      · obtain rfl : m = t.items.length + 1 := by omega
        have hml' : ¬ ((t.items.length + 1 : Nat) : Int) - 1 < (t.items.length : Int) := by omega
        obtain ⟨a5, k5, rfl⟩ := own_form1 hown.out
        clear hml
        go_wp2_with fail
        go_ret2
        exact ⟨_, by rw [HR.out]; rfl, by rw [HR.out]; exact RI_own hown.out, BW.out⟩
  · have HR := Lib.hid (FE.out hV)
    have hv0 : (V == 0) = false := by simpa using hV
    have hv1 : (V != 0) = true := by simpa using hV
    clear hV FE FO
    go_wp2_with fail
    go_ret2
    exact ⟨_, by rw [HR.out]; rfl, by rw [HR.out]; exact RI_nil _, B1.out⟩
theorem lstGo_zero (l : List It) (a : Int) (nm : List UInt8) : lstGo l a nm 0 = -1 := rfl
theorem rfind_c (t : Tr) (path : List UInt8) (v1 v2 : Value) (W : World) (h1 : RT W v1 t.items) (h2 : RI W v2 t.slack) (hl : t.items.length ≤ 1000000000) (hs : t.slack.length ≤ 140737488355328) (hn : ∀ x ∈ t.items, x.nm.length ≤ 140737488355328) (hp : ∀ x ∈ t.items, x.pr.length ≤ 140737488355328) (hpl : path.length ≤ 16777216) :
    Calls Tryz.prog 18 #[.agg #[v1, v2], str path] W fun e w' => e = .returned (.tuple #[.int .i64 (findS t path).1, .int .i64 (findS t path).2]) ∧ Below W.heap.size W w' := by
  obtain ⟨p1, c1, rfl, _, _, hit⟩ := h1.out
  obtain ⟨p2, c2, rfl⟩ := RI_form h2
  obtain ⟨w0, hw0⟩ : ∃ w0, w0 = W.alloc (rtrObj (.slice p1 t.items.length c1) (.slice p2 t.slack.length c2)) := ⟨_, rfl⟩
  have b0 : Below W.heap.size W w0 := by rw [hw0]; exact (Below.refl _ _).alloc (Nat.le_refl _) _
  have CC : w0.heap[W.heap.size]? = some (rtrObj (.slice p1 t.items.length c1) (.slice p2 t.slack.length c2)) := by rw [hw0]; exact new_blk _
  have VC := Lib.hid (rvalid25_c t _ _ w0 (h1.below b0) (h2.below b0) (by omega) hs hn hp)
  have HIT := Lib.hid hit
  have HW := Lib.hid hw0
  have B0 := Lib.hid b0
  have HC := Lib.hid CC
  have SP := Lib.hid (fun w => rsplit_any ⟨path.toArray⟩ 47 w (by rw [sz]; omega))
  have FE : Hid (validS t ≠ 0 → findS t path = (0, validS t)) := Lib.hid (fun h => if_pos h)
  have FO : Hid (validS t = 0 → findS t path = findGo t.items (splitC 47 [] path) (-1)) := Lib.hid (fun h => if_neg (by simp [h]))
  have LF := Lib.hid (fun (h : validS t = 0) a nm => lst_fnd (valid_twins h) a nm)
  have hsm := splitC_many 47 path []
  have c0 := blk_cell (j := 0) (v := .slice p1 t.items.length c1) HC.out rfl
  have c1' := blk_cell (j := 1) (v := .slice p2 t.slack.length c2) HC.out rfl
  have hT0 : W.heap.size < w0.heap.size := blk_lt CC
  have hli : (t.items.length : Int) ≤ 1000000000 := by omega
  simp only at SP
  generalize findS t path = R at *
  generalize splitC 47 [] path = ns at *
  generalize validS t = V at *
  have hns : (ns.length : Int) ≤ 16777217 := by omega
  clear h1 h2 hw0 b0 CC hs hn hp hit
  go_enter Tryz.func18, Tryz.ntmps18
  go_wp2_with fail
  rw [← HW.out]
  refine VC.out.mono ?_
  rintro e w1 ⟨rfl, hb1⟩
  have B1 := Lib.hid (B0.out.trans (hb1.mono B0.out.size))
  have CB1 := Lib.hid (blk_below HC.out hb1)
  clear hb1 VC
  by_cases hV : V = 0
  · have HR := Lib.hid (FO.out hV)
    have LFx := Lib.hid (LF.out hV)
    have LT1 : W.heap.size < w1.heap.size := blk_lt CB1.out
    have hv0 : (V == 0) = true := by simpa using hV
    have hv1 : (V != 0) = false := by simpa using hV
    have SP1 := Lib.hid (SP.out w1)
    clear hV FE FO c0 c1' LF SP
    go_wp2_with (go_at_call 26; refine SP1.out.mono ?_; rintro e w2 ⟨vs, rfl, hrs, hb2⟩; obtain ⟨p3, c3, rfl, hcs⟩ := hrs.out; have HCS := Lib.hid hcs; have HB2 := Lib.hid hb2)
    clear hrs hcs hb2
    have B2 := Lib.hid (B1.out.trans (HB2.out.mono B1.out.size))
    have CB2 := Lib.hid (blk_below CB1.out HB2.out)
    have g0 := blk_cell (j := 0) (v := .slice p1 t.items.length c1) CB2.out rfl
    have LT2 : W.heap.size < w2.heap.size := blk_lt CB2.out
    have ST : Hid (R = findGo t.items (ns.drop 0) (-1)) := Lib.hid HR.out
    go_loopw [7, 9] (fun av iv wr => ∃ (i nq : Nat) (a : Int), av = .int .i64 a ∧ iv = .int .i64 i ∧ i ≤ ns.length ∧ Hid (R = findGo t.items (ns.drop i) a) ∧ wr = w2.drewN nq) (fun _ iv _ => ns.length - (intOf iv).toNat)
    case atStart => exact ⟨0, 0, -1, rfl, by go_num, Nat.zero_le _, ST, rfl⟩
    case round =>
      obtain ⟨i, nq, a, rfl, rfl, hi, hr, rfl⟩ := hrel
      have hii : (i : Int) ≤ 16777217 := by omega
      by_cases hlt : i < ns.length
      · have hlt' : (i : Int) < (ns.length : Int) := by omega
        have hi0 : (0 : Int) ≤ (i : Int) := by omega
        have hi1 : i + 1 ≤ ns.length := hlt
        obtain ⟨bs, os, rfl, hbs, gs⟩ := HCS.out i hlt
        have AT := Lib.hid (hr.out.trans (findGo_at hlt a))
        have LX := Lib.hid (LFx.out a (ns.getD i []))
        have LZ := Lib.hid (lstGo_zero t.items a (ns.getD i []))
        have LS : Hid (∀ n, lstGo t.items a (ns.getD i []) (n + 1) = if (t.items.getD n default).par = a ∧ (t.items.getD n default).nm = ns.getD i [] then (n : Int) else lstGo t.items a (ns.getD i []) n) := Lib.hid (fun n => rfl)
        obtain ⟨ny, hny⟩ : ∃ s, s = (⟨(ns.getD i []).toArray⟩ : ByteArray) := ⟨_, rfl⟩
        have NY := Lib.hid hny
        have gs' : w2.cell? ⟨bs, os + i, none⟩ = some (.string ny) := by rw [gs, hny]
        clear gs hny hlt
        generalize ns.getD i [] = nm at *
        obtain ⟨wo, hwo⟩ : ∃ wo, wo = w2.drewN nq := ⟨_, rfl⟩
        have HWO := Lib.hid hwo
        rw [← hwo]
        have gs2 : wo.cell? ⟨bs, os + i, none⟩ = some (.string ny) := by rw [hwo]; exact gs'
        have g02 : wo.cell? ⟨W.heap.size, 0, none⟩ = some (.slice p1 t.items.length c1) := by rw [hwo]; exact g0
        clear gs' hwo
        go_wp2_with fail
        go_loopw [10, 11] (fun nv kv wr => ∃ (k mq : Nat) (L : Int), nv = .int .i64 L ∧ kv = .int .i64 k ∧ k ≤ t.items.length ∧ Hid (L = lstGo t.items a nm k) ∧ wr = wo.drewN mq) (fun _ kv _ => t.items.length - (intOf kv).toNat)
        case atStart => exact ⟨0, 0, -1, rfl, by go_num, Nat.zero_le _, Lib.hid LZ.out.symm, rfl⟩
        case round =>
          obtain ⟨k, mq, L, rfl, rfl, hk, hL, rfl⟩ := hrel
          have hki : (k : Int) ≤ 1000000000 := by omega
          by_cases hkl : k < t.items.length
          · have hkl' : (k : Int) < (t.items.length : Int) := by omega
            have hk0 : (0 : Int) ≤ (k : Int) := by omega
            have hk1 : k + 1 ≤ t.items.length := hkl
            obtain ⟨b, o, rfl, hb, hx⟩ := HIT.out (by omega)
            have hx' := (hx k hkl).below hb B2.out
            have x0 : w2.cell? ⟨b, o + k * 5, none⟩ = some (Value.string ⟨(t.items.getD k default).nm.toArray⟩) := hx'.c0
            have x1 : w2.cell? ⟨b, o + k * 5 + 1, none⟩ = some (.int .i64 (t.items.getD k default).par) := hx'.c1
            have LSk := Lib.hid (LS.out k)
            have x0' : wo.cell? ⟨b, o + k * 5, none⟩ = some (Value.string ⟨(t.items.getD k default).nm.toArray⟩) := by rw [HWO.out]; exact x0
            have x1' : wo.cell? ⟨b, o + k * 5 + 1, none⟩ = some (.int .i64 (t.items.getD k default).par) := by rw [HWO.out]; exact x1
            obtain ⟨nx, hnx⟩ : ∃ s, s = (⟨(t.items.getD k default).nm.toArray⟩ : ByteArray) := ⟨_, rfl⟩
            rw [← hnx] at x0'
            have BE : Hid ((nx.toList == ny.toList) = decide ((t.items.getD k default).nm = nm)) := Lib.hid (by rw [hnx, NY.out]; exact bytes_eq _ _)
            generalize (t.items.getD k default).nm = xn at *
            generalize (t.items.getD k default).par = px at *
            clear hx hx' hnx hkl x0 x1
            by_cases hpa : px = a
            · have q1 : (px == a) = true := by simpa using hpa
              by_cases hnn : xn = nm
              · have q2 : (nx.toList == ny.toList) = true := by rw [BE.out]; exact decide_eq_true hnn
                have NX : Hid ((k : Int) = lstGo t.items a nm (k + 1)) := Lib.hid (by rw [LSk.out, if_pos ⟨hpa, hnn⟩])
                clear hpa hnn LSk
                go_wp2_with fail
                go_quiet (fail)
                go_wp2_with fail
                go_roundw
                case rel => exact ⟨k + 1, _, (k : Int), rfl, by go_num, hk1, NX, rfl⟩
                case measure => show t.items.length - ((k : Int) + 1).toNat < t.items.length - ((k : Int)).toNat; omega
              · have q2 : (nx.toList == ny.toList) = false := by rw [BE.out]; exact decide_eq_false hnn
                have NX : Hid (L = lstGo t.items a nm (k + 1)) := Lib.hid (by rw [LSk.out, if_neg (fun h => hnn h.2)]; exact hL.out)
                clear hpa hnn LSk
                go_wp2_with fail
                go_quiet (fail)
                go_wp2_with fail
                go_roundw
                case rel => exact ⟨k + 1, _, L, rfl, by go_num, hk1, NX, rfl⟩
                case measure => show t.items.length - ((k : Int) + 1).toNat < t.items.length - ((k : Int)).toNat; omega
            · have q1 : (px == a) = false := by simpa using hpa
              have NX : Hid (L = lstGo t.items a nm (k + 1)) := Lib.hid (by rw [LSk.out, if_neg (fun h => hpa h.1)]; exact hL.out)
              clear hpa LSk
              go_wp2_with fail
              go_quiet (fail)
              go_wp2_with fail
              go_roundw
              case rel => exact ⟨k + 1, _, L, rfl, by go_num, hk1, NX, rfl⟩
              case measure => show t.items.length - ((k : Int) + 1).toNat < t.items.length - ((k : Int)).toNat; omega
          · obtain rfl : k = t.items.length := by omega
            have hkl' : ¬ (t.items.length : Int) < (t.items.length : Int) := by omega
            have HL : Hid (L = fndI t.items a nm) := Lib.hid (hL.out.trans LX.out)
            have AT2 : Hid (R = if L < 0 then (0, 50) else findGo t.items (ns.drop (i + 1)) L) := Lib.hid (by rw [HL.out]; exact AT.out)
            have WQ : Hid (wo.drewN mq = w2.drewN (nq + mq)) := Lib.hid (by rw [HWO.out, World.drewN_drewN])
            have BQ : Hid (Below W.heap.size W (wo.drewN mq)) := Lib.hid (by rw [WQ.out]; exact B2.out.trans (Qt.below ⟨_, rfl⟩))
            clear hkl AT LX hL
            by_cases hLn : L < 0
            · have HR2 := Lib.hid (AT2.out.trans (if_pos hLn))
              have q3 : decide (L < 0) = true := decide_eq_true hLn
              clear AT2 HL
              go_wp2_with fail
              go_ret2
              exact ⟨by rw [HR2.out]; rfl, BQ.out⟩
            · have NX := Lib.hid (AT2.out.trans (if_neg hLn))
              have q3 : decide (L < 0) = false := decide_eq_false hLn
              have q4 : 0 ≤ L := by omega
              clear AT2 HL
              go_wp2_with fail
              go_roundw
              case rel => exact ⟨i + 1, _, L, rfl, by go_num, hi1, NX, WQ.out⟩
              case measure => show ns.length - ((i : Int) + 1).toNat < ns.length - ((i : Int)).toNat; omega
      · obtain rfl : i = ns.length := by omega
        have hlt' : ¬ (ns.length : Int) < (ns.length : Int) := by omega
        have HR2 : Hid (R = (a, 0)) := Lib.hid (hr.out.trans (findGo_end _ _ _))
        clear hlt
        go_wp2_with fail
        go_ret2
        exact ⟨by rw [HR2.out]; rfl, B2.out.trans (Qt.below ⟨_, rfl⟩)⟩
  · have HR := Lib.hid (FE.out hV)
    have hv0 : (V == 0) = false := by simpa using hV
    have hv1 : (V != 0) = true := by simpa using hV
    clear hV FE FO
    go_wp2_with fail
    go_ret2
    exact ⟨by rw [HR.out]; rfl, B1.out⟩
end Go.Proofs.YtophilmjfdhhaaaGreatDoor
