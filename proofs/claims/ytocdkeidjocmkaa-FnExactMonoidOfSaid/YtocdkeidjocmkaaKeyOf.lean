/- keyOf: a list of small numbers as a text. -/
import Derived.Test.YtocdkeidjocmkaaMonoidLaw
import Derived.Test.YtocdkeidjocmkaaNew
namespace Go.Proofs.Ytocdkeidjocmkaa
set_option linter.unusedVariables false
set_option linter.unusedSimpArgs false
open Go.ChangeShapes Go.WideShapes Go.ChangeAt Go.RowKit

theorem elem_byte : Elem Try.prog 145 5 (.int .u8 0) 1 := ⟨Try.underlying145, by kernel_rfl, rfl⟩
theorem keyB_snoc (zs : List Int) (k : Nat) (h : k < zs.length) (hz : 0 ≤ zs.getD k 0 ∧ zs.getD k 0 < 256) : byteVals (keyB (zs.take k)) ++ [.int .u8 (zs.getD k 0)] = byteVals (keyB (zs.take (k + 1))) := by
  have e : (zs.getD k 0) = ((UInt8.ofNat (zs.getD k 0).toNat).toNat : Int) := by
    rw [UInt8.toNat_ofNat', Nat.mod_eq_of_lt (by omega)]
    omega
  have e2 : zs.take (k + 1) = zs.take k ++ [zs.getD k 0] := by rw [List.take_succ_eq_append_getElem h]; simp [List.getD_eq_getElem?_getD, h]
  rw [e2]
  unfold keyB
  rw [List.map_append, List.map_singleton, ← byteVals_snoc, ← e]

theorem keyOf_any (v : Value) (zs : List Int) (w : World) (h1 : Ints w v zs) (hl : zs.length ≤ 1000) (hz : ∀ z ∈ zs, 0 ≤ z ∧ z < 256) :
    Calls Try.prog 97 #[v] w (RetB (.string ⟨(keyB zs).toArray⟩) w) := by
  obtain ⟨ao, b, o, c, H⟩ := h1.open
  have hv := H.val
  subst hv
  have hm := H.len
  have A1 := H.adr
  have HC := Lib.hid (fun k (hk : k < zs.length) => H.cell k hk)
  have HZ := Lib.hid (fun k (hk : k < zs.length) => hz (zs.getD k 0) (by rw [List.getD_eq_getElem?_getD, List.getElem?_eq_getElem hk]; exact List.getElem_mem hk))
  have HE : Hid ((w.alloc (.cells #[] 5)).ownsRow w.heap.size 5 1 (.slice (some ⟨w.heap.size, 0, none⟩) 0 0) 0 (byteVals (keyB (zs.take 0)))) := World.ownsRow_made w #[] 0 (Nat.le_refl _) (by unfold maxLen; omega) (by simp)
  have hbe : Below w.heap.size w (w.alloc (.cells #[] 5)) := below_alloc (Below.refl _ _) _
  clear h1 H hz
  go_enter Try.func97, Try.ntmps97
  go_wp2
  go_loopw [3, 9] (fun u i wr => ∃ k : Nat, k ≤ zs.length ∧ i = .int .i64 k ∧ Hid (wr.ownsRow w.heap.size 5 1 u k (byteVals (keyB (zs.take k)))) ∧ Below w.heap.size w wr) (fun _ i _ => zs.length - (intOf i).toNat)
  case atStart => exact ⟨0, Nat.zero_le _, rfl, HE.out, hbe⟩
  case round =>
    obtain ⟨k, hk, rfl, HO, hb⟩ := hrel
    by_cases hlt : k < zs.length
    · have i1 := idx_of Try.underlying55 size1_int (c := c) A1 hlt .i64
      have d1 := below_cell hb (HC.out k hlt)
      have hzk := HZ.out k hlt
      have HSN := Lib.hid (keyB_snoc zs k hlt hzk)
      obtain ⟨z, hzz⟩ : ∃ z, z = zs.getD k 0 := ⟨_, rfl⟩
      rw [← hzz] at d1 hzk HSN
      have hw : IntKind.u8.wrap z = z := by rw [IntKind.wrap_u8]; omega
      have z0 := hzk.1
      have z1 := hzk.2
      clear hzz hzk
      go_wp2_with (at_builtin; refine wpList_push elem_byte rfl (.tmp 13) (.tmp 16) rfl w.heap.size rfl HO.out _ rfl rfl (by unfold maxLen; omega) (by omega) hb.size ?_; intro v6 w6 ho6 hg6 hs6)
      rw [HSN.out] at ho6
      have HO6 := Lib.hid ho6
      have hb6 : Below w.heap.size w w6 := Below.grown hb hg6 hb.size (fun g hg => (own_block HO.out hg).1)
      clear ho6 hg6 hs6
      go_wp2
      go_roundw
      case rel => exact ⟨k + 1, by omega, by go_num, HO6.out, hb6⟩
      case measure => simp [intOf]; omega
    · obtain rfl : k = zs.length := by omega
      have ho := HO.out
      rw [List.take_length] at ho
      have hrun := run_string_own (P := Try.prog) Try.underlying145 Try.underlying5 Try.underlying9 ho
      obtain ⟨s, hs⟩ : ∃ s : ByteArray, s = ⟨(keyB zs).toArray⟩ := ⟨_, rfl⟩
      rw [← hs] at hrun
      obtain ⟨au, mu, cu, rfl, HMu⟩ := own_shape HO.out
      have HS := Lib.hid hs
      clear ho hs
      go_wp2
      go_ret
      exact ⟨by first | rfl | (rw [HS.out]; rfl), hb⟩

end Go.Proofs.Ytocdkeidjocmkaa
