/- Pack of package handle and of its reference: handles as bytes. -/
import Derived.Test.YtpnjedcijbpngaaDoorHd
import Derived.Test.YtpnjedcijbpngaaDoorRI
import Derived.Laws.BytesArg
namespace Go.Proofs.YtpnjedcijbpngaaDoor
open Go Go.RowKit Go.Shelf Go.Sort
set_option maxHeartbeats 400000
set_option maxRecDepth 100000
set_option linter.unusedVariables false

/-- The six bytes of a handle. -/
def b6 (h : Int) : List Int := [h / 1099511627776 % 256, h / 4294967296 % 256, h / 16777216 % 256, h / 65536 % 256, h / 256 % 256, h % 256]
theorem b6_length (h : Int) : (b6 h).length = 6 := rfl
def packI (l : List Int) : List Int := l.flatMap b6
theorem packI_length (l : List Int) : (packI l).length = 6 * l.length := by
  induction l with
  | nil => rfl
  | cons h r ih => simp only [packI, List.flatMap_cons, List.length_append, b6_length, List.length_cons] at *; omega
def pOk (h : Int) : Prop := h = 0 ∨ HV h
instance (h : Int) : Decidable (pOk h) := by unfold pOk; infer_instance

theorem Tryd.infou8 : (Tryd.prog.info? 5).map (fun i => (i.zero, i.size, i.bytes)) = some (some (.int .u8 0), 1, 1) := by kernel_rfl

/-- string(b) of a row of the call's own. -/
theorem conv_own {w : World} {B : Nat} {v : Value} {n : Nat} {xs : List Int} (h : w.ownsRow B 5 1 v n (xs.map (Value.int .u8))) :
    (convert 67 9 v).run Tryd.prog w = .ok (.string (strOfNums xs)) w := by
  obtain ⟨hl, h⟩ := h
  rcases h with ⟨rfl, rfl⟩ | ⟨g, cap, cur, rfl, hg, hh, hn, hc, hs, ht⟩
  · obtain rfl : xs = [] := by simpa using hl
    exact run_convert_bytes_nil w _ 5 Tryd.underlying67 Tryd.underlying5 0 0 _ Tryd.underlying9
  · have hl' : xs.length = n := by simpa using hl
    refine run_convert_bytes_arg w _ 5 Tryd.underlying67 Tryd.underlying5 g 0 n cap xs hl' (fun i hi => ?_) _ Tryd.underlying9
    have e1 : cur.toList[i]? = (xs.map (Value.int .u8))[i]? := by
      rw [← ht, List.getElem?_take, if_pos (by omega)]
    simp only [World.cell?, hh]
    have e2 : (xs.map (Value.int .u8))[i]? = some (.int .u8 (xs.getD i 0)) := by
      rw [List.getElem?_map, List.getD, List.getElem?_eq_getElem (by omega)]; rfl
    rw [e2] at e1
    simpa using e1

/-- The shift behind j bytes. -/
def SH (j : Nat) (s : Int) : Prop := (j = 0 ∧ s = 40) ∨ (j = 1 ∧ s = 32) ∨ (j = 2 ∧ s = 24) ∨ (j = 3 ∧ s = 16) ∨ (j = 4 ∧ s = 8) ∨ (j = 5 ∧ s = 0) ∨ (j = 6 ∧ s = -8)

theorem own_next {w : World} {B m n : Nat} {v : Value} {ys zs : List Int} {y : Int} (h : w.ownsRow B 5 1 v m (ys.map (Value.int .u8) ++ [.int .u8 y])) (e : zs = ys ++ [y]) (hn : n = m) : w.ownsRow B 5 1 v n (zs.map (Value.int .u8)) := by
  subst e hn; simpa using h
theorem packI_snoc (l : List Int) (k : Nat) (hk : k < l.length) (h : Int) (e : l.getD k 0 = h) : packI (l.take (k + 1)) = packI (l.take k) ++ b6 h := by
  rw [List.take_succ_eq_append_getElem hk]
  have : l[k] = h := by rw [← e, List.getD, List.getElem?_eq_getElem hk]; rfl
  simp [packI, this]

/-- The bytes of all, or nothing, and whether all may be. -/
def packR (l : List Int) : ByteArray × Int := if ∀ h ∈ l, pOk h then (strOfNums (packI l), 0) else (⟨#[]⟩, 20)

theorem pack_s (l : List Int) (v : Value) (W : World) (hv : RI W v l) (hl : l.length ≤ 4096) :
    Calls Tryd.prog 27 #[v] W fun e w' => e = .returned (.tuple #[.string (packR l).1, errOf (packR l).2]) ∧ Below W.heap.size W w' := by
  rcases hv with ⟨rfl, a, cap, rfl, -⟩ | ⟨b, off, cap, rfl, hb, hcell⟩
  · go_enter Tryd.func27, Tryd.ntmps27
    go_wp2_with fail
    go_loopw [4, 14] (fun v i wr => v = .slice none 0 0 ∧ i = .int .i64 0 ∧ wr = W) (fun _ _ _ => 0)
    case atStart => exact ⟨rfl, rfl, rfl⟩
    case round =>
      obtain ⟨rfl, rfl, rfl⟩ := hrel
      have hc := run_convert_bytes_nil (P := Tryd.prog) wr 67 5 Tryd.underlying67 Tryd.underlying5 0 0 _ Tryd.underlying9
      go_wp2_with fail
      go_ret2
      exact ⟨rfl, Below.refl _ _⟩
  · obtain ⟨i0, hi, hz0, hz1, hz2⟩ := info_parts Tryd.infou8
    have HC := Lib.hid hcell; clear hcell
    go_enter Tryd.func27, Tryd.ntmps27
    go_wp2_with fail
    go_loopw [4, 14] (fun v i wr => ∃ k : Nat, k ≤ l.length ∧ i = .int .i64 k ∧ Hid (∀ h ∈ l.take k, pOk h) ∧ wr.ownsRow W.heap.size 5 1 v (6 * k) ((packI (l.take k)).map (Value.int .u8)) ∧ Below W.heap.size W wr) (fun _ i _ => l.length - (intOf i).toNat)
    case atStart => exact ⟨0, Nat.zero_le _, rfl, (by intro h hh; simp at hh), by simpa [packI] using World.ownsRow_nil _ _ _ _, Below.refl _ _⟩
    case round =>
      obtain ⟨k, hk, rfl, hall, hown, hbe⟩ := hrel
      by_cases hlt : k < l.length
      · have hcx : wr.cell? ⟨b, off + k, none⟩ = some (.int .i64 (l.getD k 0)) := (hbe.cell (by exact hb)).trans (HC.out k hlt)
        have hm : l.getD k 0 ∈ l := by rw [List.getD, List.getElem?_eq_getElem hlt]; exact List.getElem_mem hlt
        generalize he : l.getD k 0 = h at *
        have HE := Lib.hid he; clear he
        have HM := Lib.hid hm; clear hm
        by_cases hp : pOk h
        case neg =>
          have hz : (h != 0) = true := by simp; exact fun z => hp (.inl z)
          have VV := Lib.hid (fun v : HV h => hp (.inr v))
          have R : packR l = (⟨#[]⟩, 20) := if_neg (fun a => hp (a h HM.out))
          have RR := Lib.hid R; clear R hp
          go_wp2_with (go_at_call 19; refine (valid_f _ VV.out).mono ?_; rintro e w' ⟨rfl, rfl⟩)
          go_ret2
          exact ⟨by rw [RR.out]; rfl, hbe⟩
        have hall' : Hid (∀ h ∈ l.take (k + 1), pOk h) := by
          intro x hx
          rw [List.take_succ_eq_append_getElem hlt, List.mem_append] at hx
          rcases hx with hx | hx
          · exact hall x hx
          · have e : x = h := by rw [← HE.out]; simpa [List.getD, List.getElem?_eq_getElem hlt] using hx
            rw [e]; exact hp
        have hz : ((h != 0) = false) ∨ ((h != 0) = true ∧ HV h) := by
          by_cases z : h = 0
          · exact .inl (by simp [z])
          · exact .inr ⟨by simp [z], hp.resolve_left z⟩
        clear hp
        have hB := hbe.size
        rcases hz with hz | ⟨hz, vv⟩
        all_goals
          try have VV := Lib.hid vv; clear vv
          go_wp2_with (go_at_call 19; refine (valid_t _ VV.out).mono ?_; rintro e w' ⟨rfl, rfl⟩)
          go_loopw [4, 7] (fun v s w2 => ∃ j : Nat, ∃ sh : Int, SH j sh ∧ s = .int .i64 sh ∧ w2.ownsRow W.heap.size 5 1 v (6 * k + j) ((packI (l.take k) ++ (b6 h).take j).map (Value.int .u8)) ∧ Below W.heap.size W w2) (fun _ s _ => (intOf s + 8).toNat)
          case atStart => exact ⟨0, 40, .inl ⟨rfl, rfl⟩, rfl, by simpa using hown, hbe⟩
          case round =>
            obtain ⟨j, sh, hsh, rfl, hown2, hbe2⟩ := hrel
            rcases hsh with ⟨rfl, rfl⟩ | ⟨rfl, rfl⟩ | ⟨rfl, rfl⟩ | ⟨rfl, rfl⟩ | ⟨rfl, rfl⟩ | ⟨rfl, rfl⟩ | ⟨rfl, rfl⟩
            case inr.inr.inr.inr.inr.inr =>
              go_wp2_with fail
              go_roundw
              case rel => exact ⟨k + 1, by omega, by go_num, hall', by rw [packI_snoc l k hlt h HE.out]; have := hown2; rwa [show (b6 h).take 6 = b6 h from rfl] at this, hbe2⟩
              case measure => simp [intOf]; omega
            case inl =>
              go_wp2_with (at_builtin; refine append1 rfl _ _ 67 rfl W.heap.size 5 i0 (.int .u8 0) 1 Tryd.underlying67 hi hz0 hz1 hz2 rfl _ _ _ rfl hown2 _ _ rfl rfl (by unfold maxLen; omega) (by omega) (by have := hbe2.size; omega) hbe2 ?_; intro v' w3 hown3 hbe3)
              go_roundw
              case rel => exact ⟨1, 32, .inr (.inl ⟨rfl, rfl⟩), rfl, own_next hown3 (by simp [b6]) (by omega), hbe3⟩
              case measure => simp [intOf]
            case inr.inl =>
              go_wp2_with (at_builtin; refine append1 rfl _ _ 67 rfl W.heap.size 5 i0 (.int .u8 0) 1 Tryd.underlying67 hi hz0 hz1 hz2 rfl _ _ _ rfl hown2 _ _ rfl rfl (by unfold maxLen; omega) (by omega) (by have := hbe2.size; omega) hbe2 ?_; intro v' w3 hown3 hbe3)
              go_roundw
              case rel => exact ⟨2, 24, .inr (.inr (.inl ⟨rfl, rfl⟩)), rfl, own_next hown3 (by simp [b6]) (by omega), hbe3⟩
              case measure => simp [intOf]
            case inr.inr.inl =>
              go_wp2_with (at_builtin; refine append1 rfl _ _ 67 rfl W.heap.size 5 i0 (.int .u8 0) 1 Tryd.underlying67 hi hz0 hz1 hz2 rfl _ _ _ rfl hown2 _ _ rfl rfl (by unfold maxLen; omega) (by omega) (by have := hbe2.size; omega) hbe2 ?_; intro v' w3 hown3 hbe3)
              go_roundw
              case rel => exact ⟨3, 16, .inr (.inr (.inr (.inl ⟨rfl, rfl⟩))), rfl, own_next hown3 (by simp [b6]) (by omega), hbe3⟩
              case measure => simp [intOf]
            case inr.inr.inr.inl =>
              go_wp2_with (at_builtin; refine append1 rfl _ _ 67 rfl W.heap.size 5 i0 (.int .u8 0) 1 Tryd.underlying67 hi hz0 hz1 hz2 rfl _ _ _ rfl hown2 _ _ rfl rfl (by unfold maxLen; omega) (by omega) (by have := hbe2.size; omega) hbe2 ?_; intro v' w3 hown3 hbe3)
              go_roundw
              case rel => exact ⟨4, 8, .inr (.inr (.inr (.inr (.inl ⟨rfl, rfl⟩)))), rfl, own_next hown3 (by simp [b6]) (by omega), hbe3⟩
              case measure => simp [intOf]
            case inr.inr.inr.inr.inl =>
              go_wp2_with (at_builtin; refine append1 rfl _ _ 67 rfl W.heap.size 5 i0 (.int .u8 0) 1 Tryd.underlying67 hi hz0 hz1 hz2 rfl _ _ _ rfl hown2 _ _ rfl rfl (by unfold maxLen; omega) (by omega) (by have := hbe2.size; omega) hbe2 ?_; intro v' w3 hown3 hbe3)
              go_roundw
              case rel => exact ⟨5, 0, .inr (.inr (.inr (.inr (.inr (.inl ⟨rfl, rfl⟩))))), rfl, own_next hown3 (by simp [b6]) (by omega), hbe3⟩
              case measure => simp [intOf]
            case inr.inr.inr.inr.inr.inl =>
              go_wp2_with (at_builtin; refine append1 rfl _ _ 67 rfl W.heap.size 5 i0 (.int .u8 0) 1 Tryd.underlying67 hi hz0 hz1 hz2 rfl _ _ _ rfl hown2 _ _ rfl rfl (by unfold maxLen; omega) (by omega) (by have := hbe2.size; omega) hbe2 ?_; intro v' w3 hown3 hbe3)
              go_roundw
              case rel => exact ⟨6, (-8), .inr (.inr (.inr (.inr (.inr (.inr ⟨rfl, rfl⟩))))), rfl, own_next hown3 (by simp [b6]) (by omega), hbe3⟩
              case measure => simp [intOf]
      · have hc := conv_own hown
        have ek : l.take k = l := List.take_of_length_le (by omega)
        rw [ek] at hc hall
        have R : packR l = (strOfNums (packI l), 0) := if_pos hall
        have RR := Lib.hid R
        clear hown ek R
        go_wp2_with fail
        go_ret2
        exact ⟨by rw [RR.out]; rfl, hbe⟩

theorem pack_long (l : List Int) (v : Value) (W : World) (hv : RI W v l) (hl : 4096 < l.length) :
    Calls Tryd.prog 27 #[v] W fun e w' => e = .returned (.tuple #[.string ⟨#[]⟩, errN 3]) ∧ Below W.heap.size W w' := by
  rcases hv with ⟨rfl, a, cap, rfl, -⟩ | ⟨b, off, cap, rfl, hb, hcell⟩
  · simp at hl
  · clear hcell
    go_enter Tryd.func27, Tryd.ntmps27
    go_wp2_with fail
    go_ret2
    exact ⟨rfl, Below.refl _ _⟩
end Go.Proofs.YtpnjedcijbpngaaDoor
