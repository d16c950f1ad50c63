/- titheref19.Of, trace.Periods, titheref19.Periods. -/
import Derived.Test.YtpaffemjdffoiaaOc
import Derived.Test.YtpaffemjdffoiaaRI
namespace Go.Proofs.Ytpaffemjdffoiaa
open Go Go.RowKit Go.ChangeShapes Go.WideShapes
set_option linter.unusedVariables false
set_option maxRecDepth 100000
set_option maxHeartbeats 800000

theorem h_eql (a b : Int) : ((a : Int) == b) = decide (a = b) := by
  by_cases h : a = b <;> simp [h]
theorem rof_t (W : World) (v : Value) (l : List Mk) (node : Int) (hv : RM W v l) (hl : l.length ≤ 3518437208780) :
    Calls Try.prog 11 #[v, .int .i64 node] W fun e w' => ∃ v', e = .returned v' ∧ w'.ownsRow W.heap.size 32 5 v' (ofL l node).length (flat (ofL l node)) ∧ Below W.heap.size W w' := by
  obtain ⟨p, c, rfl, hrow⟩ := hv.out
  obtain ⟨i0, hi, hz0, hz1, hz2⟩ := info_of Try.infoMark
  clear hv
  go_enter Try.func11, Try.ntmps11
  go_wp2_with fail
  go_loopw [5, 6] (fun a i wr => ∃ k : Nat, k ≤ l.length ∧ i = .int .i64 k ∧ wr.ownsRow W.heap.size 32 5 a (ofL (l.take k) node).length (flat (ofL (l.take k) node)) ∧ Below W.heap.size W wr) (fun _ i _ => l.length - (intOf i).toNat)
  case atStart => exact ⟨0, Nat.zero_le _, by go_num, World.ownsRow_nil _ _ _ _, Below.refl _ _⟩
  case round =>
    obtain ⟨k, hk, rfl, hown, hbe⟩ := hrel
    have hkb : (k : Int) ≤ 3518437208780 := by omega
    by_cases hlt : k < l.length
    · obtain ⟨g, o, rfl, hcap, hg, hrows⟩ := hrow (by omega)
      have hx := (hrows k hlt).of_block (hbe.block g hg)
      have SN : Hid (ofL (l.take (k + 1)) node = ofL (l.take k) node ++ (if (l.getD k default).h = node then [l.getD k default] else [])) := Lib.hid (by rw [take_succ_getD l k hlt, ofL_snoc])
      have hsl : (ofL (l.take k) node).length ≤ k := Nat.le_trans (List.length_filter_le _ _) (List.length_take_le _ _)
      generalize l.getD k default = m at *
      generalize ofL (l.take k) node = L at *
      have hkn : (k : Int) < (l.length : Int) := by omega
      obtain ⟨x0, x1, x2, x3, x4⟩ := hx
      by_cases hm : m.h = node
      · have e1 : (m.h == node) = true := by simp [hm]
        have HM := Lib.hid hm
        clear hm
        have hsz := hbe.size
        go_wp2_with (at_builtin; refine append5 rfl _ _ 29 rfl W.heap.size 32 i0 _ Try.underlying29 hi hz0 hz1 hz2 rfl _ _ _ rfl hown _ m rfl (by omega) hsz hbe ?_; intro v' w3 hown3 hbe3 hch3)
        go_roundw
        case rel => exact ⟨k + 1, by omega, by go_num, by rw [SN.out, if_pos HM.out, List.length_append]; exact hown3, hbe3⟩
        case measure => simp [intOf]; omega
      · have e1 : (m.h == node) = false := by simp [hm]
        have HM := Lib.hid hm
        clear hm
        go_wp2_with fail
        go_roundw
        case rel => exact ⟨k + 1, by omega, by go_num, by rw [SN.out, if_neg HM.out, List.append_nil]; exact hown, hbe⟩
        case measure => simp [intOf]; omega
    · obtain rfl : k = l.length := by omega
      go_wp2_with fail
      go_ret
      rw [List.take_length] at hown
      exact ⟨_, rfl, hown, hbe⟩

/-- What a node was supplied in its periods. -/
def perL (l : List Mk) (node : Int) : List Int := (l.filter fun m => m.h == node && m.k == 5).map Mk.n
theorem perL_snoc (l : List Mk) (m : Mk) (node : Int) : perL (l ++ [m]) node = perL l node ++ (if m.h = node ∧ m.k = 5 then [m.n] else []) := by
  unfold perL
  rw [List.filter_append, List.map_append]
  congr 1
  by_cases h : m.h = node <;> by_cases h' : m.k = 5 <;> simp [h, h']
def endL (l : List Mk) : List Int := (l.filter fun m => m.k == 5).map Mk.n
theorem endL_snoc (l : List Mk) (m : Mk) : endL (l ++ [m]) = endL l ++ (if m.k = 5 then [m.n] else []) := by
  unfold endL
  rw [List.filter_append, List.map_append]
  by_cases h : m.k = 5 <;> simp [h]
theorem endL_of (l : List Mk) (node : Int) : endL (ofL l node) = perL l node := by
  unfold endL ofL perL
  rw [List.filter_filter]
  congr 2
  funext m
  rw [Bool.and_comm]
theorem Try.infoInt : (Try.prog.info? 3).map (fun i => (i.zero, i.size, i.bytes)) = some (some (.int .i64 0), 1, 8) := by kernel_rfl

theorem own_mono {w : World} {B B' : Nat} {e : TypeId} {s : Nat} {v : Value} {n : Nat} {xs : List Value} (h : w.ownsRow B e s v n xs) (hB : B' ≤ B) : w.ownsRow B' e s v n xs := by
  obtain ⟨h1, h2⟩ := h
  refine ⟨h1, ?_⟩
  rcases h2 with h | ⟨g, cap, cur, rfl, hg, r⟩
  · exact .inl h
  · exact .inr ⟨g, cap, cur, rfl, Nat.le_trans hB hg, r⟩
theorem append1b {P : Program} {ops : Array Oper} {rest : List Oper} {o : Oper} {a : Act} {Q : Exit → Act → World → Prop} {W w0 : World} (hgd : o.guard = none) (s x : Operand) (t : TypeId)
    (ho : o.op = .call { callee := .builtin .append, args := #[s, x], argTypes := #[t, t] })
    (base : Nat) (e : TypeId) (i : TypeInfo) (z : Value) (bytes : Nat) (ht : P.underlying t = some (.slice e)) (hi : P.info? e = some i) (hz : i.zero = some z)
    (hsize : i.size = 1) (hby : i.bytes = bytes) (hzs : z.cells.size = 1)
    (v : Value) (n : Nat) (xs : List Value) (hs : a.eval s = v) (hown : w0.ownsRow base e 1 v n xs)
    (c : Nat) (u : Value) (bx : Nat) (hx : a.eval x = .slice (some ⟨bx, 0, none⟩) 1 c) (hbx : bx = w0.heap.size) (hu : u.oneCell' = true)
    (h63 : n + 1 ≤ maxLen) (hbytes : (n + 1) * bytes ≤ 140737488355328) (hbase : base ≤ w0.heap.size) (hb : Below base W w0)
    (h : ∀ v' w', w'.ownsRow base e 1 v' (n + 1) (xs ++ [u]) → Below base W w' → wpList P ops Q rest (a.put o.dst v') w') :
    wpList P ops Q (o :: rest) a (w0.alloc (.cells #[u] e)) := by
  subst hbx
  exact append1 hgd s x t ho base e i z bytes ht hi hz hsize hby hzs v n xs hs hown c u hx hu h63 hbytes hbase hb h

theorem periods_t (W : World) (v : Value) (l : List Mk) (node : Int) (hv : RM W v l) (hl : l.length ≤ 3518437208780) :
    Calls Try.prog 12 #[v, .int .i64 node] W fun e w' => ∃ v', e = .returned v' ∧ w'.ownsRow W.heap.size 3 1 v' (perL l node).length ((perL l node).map (Value.int .i64)) ∧ Below W.heap.size W w' := by
  obtain ⟨i0, hi, hz0, hz1, hz2⟩ := info_of Try.infoInt
  have OF := Lib.hid (of_t W v l node hv (by omega))
  have PE := Lib.hid (endL_of l node)
  have hll : (ofL l node).length ≤ l.length := List.length_filter_le _ _
  clear hv
  go_enter Try.func12, Try.ntmps12
  go_wp2_with fail
  refine OF.out.mono ?_
  rintro e w1 ⟨v1, rfl, rm, be1⟩
  generalize ofL l node = ol at *
  obtain ⟨p, c, rfl, hrow⟩ := rm.out
  have BE1 := Lib.hid be1
  clear rm be1
  go_wp2_with fail
  go_loopw [5, 12] (fun a i wr => ∃ k : Nat, k ≤ ol.length ∧ i = .int .i64 k ∧ wr.ownsRow w1.heap.size 3 1 a (endL (ol.take k)).length ((endL (ol.take k)).map (Value.int .i64)) ∧ Below w1.heap.size w1 wr) (fun _ i _ => ol.length - (intOf i).toNat)
  case atStart => exact ⟨0, Nat.zero_le _, by go_num, World.ownsRow_nil _ _ _ _, Below.refl _ _⟩
  case round =>
    obtain ⟨k, hk, rfl, hown, hbe⟩ := hrel
    have hkb : (k : Int) ≤ 3518437208780 := by omega
    by_cases hlt : k < ol.length
    · obtain ⟨g, o, rfl, hcap, hg, hrows⟩ := hrow (by omega)
      have hx := (hrows k hlt).of_block (hbe.block g hg)
      have SN : Hid (endL (ol.take (k + 1)) = endL (ol.take k) ++ (if (ol.getD k default).k = 5 then [(ol.getD k default).n] else [])) := Lib.hid (by rw [take_succ_getD ol k hlt, endL_snoc])
      have hsl : (endL (ol.take k)).length ≤ k := by unfold endL; rw [List.length_map]; exact Nat.le_trans (List.length_filter_le _ _) (List.length_take_le _ _)
      generalize ol.getD k default = m at *
      generalize endL (ol.take k) = L at *
      have hkn : (k : Int) < (ol.length : Int) := by omega
      have hsz := hbe.size
      obtain ⟨x0, x1, x2, x3, x4⟩ := hx
      by_cases hm : m.k = 5
      · have e1 : (m.k == 5) = true := by simp [hm]
        have HM := Lib.hid hm
        clear hm
        have hown1 := hown.alloc (.cells #[.int .i64 m.t, .int .i64 m.k, .int .i64 m.h, .int .i64 m.j, .int .i64 m.n] 32)
        have hbe1 := hbe.alloc hsz (.cells #[.int .i64 m.t, .int .i64 m.k, .int .i64 m.h, .int .i64 m.j, .int .i64 m.n] 32)
        have hsz1 := hbe1.size
        go_wp2_with (at_builtin; refine append1b rfl _ _ 22 rfl w1.heap.size 3 i0 _ 8 Try.underlying22 hi hz0 hz1 hz2 rfl _ _ _ rfl hown1 _ (.int .i64 m.n) _ rfl (by simp) rfl (by unfold maxLen; omega) (by omega) hsz1 hbe1 ?_; intro v' w3 hown3 hbe3)
        go_roundw
        case rel => exact ⟨k + 1, by omega, by go_num, by rw [SN.out, if_pos HM.out, List.length_append, List.map_append]; exact hown3, hbe3⟩
        case measure => simp [intOf]; omega
      · have e1 : (m.k == 5) = false := by simp [hm]
        have HM := Lib.hid hm
        clear hm
        go_wp2_with fail
        go_roundw
        case rel => exact ⟨k + 1, by omega, by go_num, by rw [SN.out, if_neg HM.out, List.append_nil]; exact hown.alloc _, hbe.alloc hsz _⟩
        case measure => simp [intOf]; omega
    · obtain rfl : k = ol.length := by omega
      go_wp2_with fail
      go_ret
      rw [List.take_length, PE.out] at hown
      exact ⟨_, rfl, own_mono hown BE1.out.size, BE1.out.trans (hbe.mono BE1.out.size)⟩

theorem rperiods_t (W : World) (v : Value) (l : List Mk) (node : Int) (hv : RM W v l) (hl : l.length ≤ 3518437208780) :
    Calls Try.prog 13 #[v, .int .i64 node] W fun e w' => ∃ v', e = .returned v' ∧ w'.ownsRow W.heap.size 3 1 v' (perL l node).length ((perL l node).map (Value.int .i64)) ∧ Below W.heap.size W w' := by
  obtain ⟨p, c, rfl, hrow⟩ := hv.out
  obtain ⟨i0, hi, hz0, hz1, hz2⟩ := info_of Try.infoInt
  clear hv
  go_enter Try.func13, Try.ntmps13
  go_wp2_with fail
  go_loopw [5, 6] (fun a i wr => ∃ k : Nat, k ≤ l.length ∧ i = .int .i64 k ∧ wr.ownsRow W.heap.size 3 1 a (perL (l.take k) node).length ((perL (l.take k) node).map (Value.int .i64)) ∧ Below W.heap.size W wr) (fun _ i _ => l.length - (intOf i).toNat)
  case atStart => exact ⟨0, Nat.zero_le _, by go_num, World.ownsRow_nil _ _ _ _, Below.refl _ _⟩
  case round =>
    obtain ⟨k, hk, rfl, hown, hbe⟩ := hrel
    have hkb : (k : Int) ≤ 3518437208780 := by omega
    by_cases hlt : k < l.length
    · obtain ⟨g, o, rfl, hcap, hg, hrows⟩ := hrow (by omega)
      have hx := (hrows k hlt).of_block (hbe.block g hg)
      have SN : Hid (perL (l.take (k + 1)) node = perL (l.take k) node ++ (if (l.getD k default).h = node ∧ (l.getD k default).k = 5 then [(l.getD k default).n] else [])) := Lib.hid (by rw [take_succ_getD l k hlt, perL_snoc])
      have hsl : (perL (l.take k) node).length ≤ k := by unfold perL; rw [List.length_map]; exact Nat.le_trans (List.length_filter_le _ _) (List.length_take_le _ _)
      generalize l.getD k default = m at *
      generalize perL (l.take k) node = L at *
      have hkn : (k : Int) < (l.length : Int) := by omega
      have hsz := hbe.size
      obtain ⟨x0, x1, x2, x3, x4⟩ := hx
      by_cases hh : m.h = node
      · by_cases hm : m.k = 5
        · have e0 : (m.h == node) = true := by simp [hh]
          have e1 : (m.k == 5) = true := by simp [hm]
          have HM := Lib.hid (And.intro hh hm)
          clear hm hh
          go_wp2_with (at_builtin; refine append1b rfl _ _ 22 rfl W.heap.size 3 i0 _ 8 Try.underlying22 hi hz0 hz1 hz2 rfl _ _ _ rfl hown _ (.int .i64 m.n) _ rfl rfl rfl (by unfold maxLen; omega) (by omega) hsz hbe ?_; intro v' w3 hown3 hbe3)
          go_roundw
          case rel => exact ⟨k + 1, by omega, by go_num, by rw [SN.out, if_pos HM.out, List.length_append, List.map_append]; exact hown3, hbe3⟩
          case measure => simp [intOf]; omega
        · have e0 : (m.h == node) = true := by simp [hh]
          have e1 : (m.k == 5) = false := by simp [hm]
          have HM := Lib.hid (show ¬ (m.h = node ∧ m.k = 5) from fun h => hm h.2)
          clear hm hh
          go_wp2_with fail
          go_roundw
          case rel => exact ⟨k + 1, by omega, by go_num, by rw [SN.out, if_neg HM.out, List.append_nil]; exact hown, hbe⟩
          case measure => simp [intOf]; omega
      · have e0 : (m.h == node) = false := by simp [hh]
        have HM := Lib.hid (show ¬ (m.h = node ∧ m.k = 5) from fun h => hh h.1)
        clear hh
        go_wp2_with fail
        go_roundw
        case rel => exact ⟨k + 1, by omega, by go_num, by rw [SN.out, if_neg HM.out, List.append_nil]; exact hown, hbe⟩
        case measure => simp [intOf]; omega
    · obtain rfl : k = l.length := by omega
      go_wp2_with fail
      go_ret
      rw [List.take_length] at hown
      exact ⟨_, rfl, hown, hbe⟩
end Go.Proofs.Ytpaffemjdffoiaa
