/- Plain laws: what is packed is unpacked; what is told is read. No program in sight. -/
import Derived.Test.YtpnjedcijbpngaaDoorHz
import Derived.Test.YtpnjedcijbpngaaDoorHq
namespace Go.Proofs.YtpnjedcijbpngaaDoor
open Go Go.RowKit Go.Shelf Go.Sort
set_option linter.unusedVariables false

theorem hRead_text {h : Int} (v : HV h) : hRead (hText h) = (h, 0) := by
  obtain ⟨a, b, ht, _, _, da, db, na, nb, la, lb, va, vb⟩ := text_form v
  have k3 : hK h = 1 ∨ hK h = 2 ∨ hK h = 3 := by have := v.1; have := v.2.1; omega
  unfold hRead
  rw [if_neg (by rw [ht]; simp; omega), if_neg (by rw [ht]; intro e; injection e with e _; exact (letter_kf k3).2.2 e), if_neg (by rw [ht]; intro e; cases e)]
  exact genR_of_text v

def bytesOf (xs : List Int) : List UInt8 := xs.map fun n => UInt8.ofNat n.toNat
theorem strOfNums_list (xs : List Int) : (strOfNums xs).data.toList = bytesOf xs := rfl
theorem byteOf (x : Int) : ((UInt8.ofNat (x % 256).toNat).toNat : Int) = x % 256 := by
  have h1 : (x % 256).toNat < 256 := by omega
  rw [UInt8.toNat_ofNat_of_lt' (by simpa using h1)]
  omega
theorem numB_b6 (h : Int) (h0 : 0 ≤ h) (h1 : h < 281474976710656) : numB (bytesOf (b6 h)) = h := by
  simp only [bytesOf, b6, List.map_cons, List.map_nil, numB, List.foldl_cons, List.foldl_nil, byteOf]
  omega
theorem drop_over (a b : List UInt8) (n : Nat) : (a ++ b).drop (a.length + n) = b.drop n := by
  induction a with
  | nil => simp
  | cons c r ih => rw [List.cons_append, List.length_cons, show r.length + 1 + n = (r.length + n) + 1 by omega, List.drop_succ_cons, ih]
theorem unI_pack (g : List Int) (hg : ∀ h ∈ g, 0 ≤ h ∧ h < 281474976710656) : unI (bytesOf (packI g)) g.length = g := by
  induction g with
  | nil => rfl
  | cons h r ih =>
    have hh := hg h (by simp)
    have e : bytesOf (packI (h :: r)) = bytesOf (b6 h) ++ bytesOf (packI r) := by simp [bytesOf, packI]
    have l6 : (bytesOf (b6 h)).length = 6 := by simp [bytesOf, b6_length]
    unfold unI
    rw [List.length_cons, List.range_succ_eq_map, List.map_cons, List.map_map]
    have e0 : hAt (bytesOf (packI (h :: r))) 0 = h := by
      unfold hAt
      rw [e, Nat.mul_zero, List.drop_zero, List.take_append_of_le_length (by omega), List.take_of_length_le (by omega)]
      exact numB_b6 h hh.1 hh.2
    have e1 : (hAt (bytesOf (packI (h :: r))) ∘ Nat.succ) = hAt (bytesOf (packI r)) := by
      funext k
      show hAt _ (k + 1) = _
      unfold hAt
      rw [e, show 6 * (k + 1) = (bytesOf (b6 h)).length + 6 * k by omega, drop_over]
    rw [e0, e1]
    congr 1
    exact ih fun x hx => hg x (by simp [hx])
theorem unA_pack (g : List Int) (hg : ∀ h ∈ g, HV h) (hl : g.length ≤ 4096) : unA (strOfNums (packI g)).data.toList = (g, 0) := by
  have hr : ∀ h ∈ g, 0 ≤ h ∧ h < 281474976710656 := fun h hh => by have := HV_range (hg h hh); omega
  rw [strOfNums_list]
  have e : (bytesOf (packI g)).length = 6 * g.length := by simp [bytesOf, packI_length]
  unfold unA
  rw [if_neg (by omega), if_neg (by omega), e, show 6 * g.length / 6 = g.length by omega]
  unfold unR
  rw [unI_pack g hr, if_pos (fun h hh => .inr (hg h hh))]
theorem pkA_valid (g : List Int) (hg : ∀ h ∈ g, HV h) (hl : g.length ≤ 4096) : pkA g = (strOfNums (packI g), 0) := by
  unfold pkA packR
  rw [if_neg (by omega), if_pos (fun h hh => .inr (hg h hh))]

/-- The valid ones of the first k. -/
def goodL (l : List Int) (k : Nat) : List Int := (l.take k).filter fun h => decide (HV h)
theorem goodL_length (l : List Int) (k : Nat) : (goodL l k).length ≤ k := by
  unfold goodL
  have := List.length_filter_le (fun h => decide (HV h)) (l.take k)
  have h2 : (l.take k).length ≤ k := List.length_take_le _ _
  omega
theorem goodL_valid (l : List Int) (k : Nat) : ∀ h ∈ goodL l k, HV h := by
  intro h hh
  exact of_decide_eq_true (List.mem_filter.1 hh).2
theorem goodL_yes (l : List Int) (k : Nat) (hk : k < l.length) {h : Int} (e : l.getD k 0 = h) (v : HV h) : goodL l (k + 1) = goodL l k ++ [h] := by
  have : l[k] = h := by rw [← e, List.getD, List.getElem?_eq_getElem hk]; rfl
  unfold goodL
  rw [List.take_succ_eq_append_getElem hk, List.filter_append, this]
  simp [v]
theorem goodL_no (l : List Int) (k : Nat) (hk : k < l.length) {h : Int} (e : l.getD k 0 = h) (v : ¬ HV h) : goodL l (k + 1) = goodL l k := by
  have : l[k] = h := by rw [← e, List.getD, List.getElem?_eq_getElem hk]; rfl
  unfold goodL
  rw [List.take_succ_eq_append_getElem hk, List.filter_append, this]
  simp [v]
theorem HV_next {h : Int} (v : HV h) (l : hG h ≠ 1023) : HV (h + 1) := by
  have e := HV_eq v
  have o : HOk (hK h) (hS h) (hG h + 1) := by unfold HV HOk at v; unfold HOk; omega
  have := (HV_make o).1
  rwa [show hK h * 1099511627776 + hS h * 1048576 + (hG h + 1) = h + 1 by omega] at this
end Go.Proofs.YtpnjedcijbpngaaDoor
