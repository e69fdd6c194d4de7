/- WordText, of the reference and of the program. One contract each. -/
import Derived.Test.YtbelpdaolcjcmaaPush
import Derived.Test.YtbelpdaolcjcmaaSpecOk
namespace Go.Proofs.Ytbelpdaolcjcmaa
set_option linter.unusedVariables false
set_option linter.unusedSimpArgs false
open Go.ChangeShapes Go.WideShapes Go.ChangeAt Go.RowKit

theorem elem_u8 : Elem Try.prog 67 5 (.int .u8 0) 1 := ⟨Try.underlying67, by kernel_rfl, rfl⟩

def letterOf (z : Int) : UInt8 := UInt8.ofNat (97 + z.toNat)
theorem letterOf_toNat {z : Int} (h : 0 ≤ z ∧ z ≤ 2) : ((letterOf z).toNat : Int) = 97 + z := by
  unfold letterOf
  rw [UInt8.toNat_ofNat']
  have : (97 + z.toNat) % 256 = 97 + z.toNat := Nat.mod_eq_of_lt (by omega)
  omega
/-- the text of a word -/
def wordTx (zs : List Int) : List UInt8 := if zs.length ≤ 400 ∧ allIn zs 0 2 = true then (if zs.length = 0 then [45] else zs.map letterOf) else []

theorem wordTx_long {zs : List Int} (h : 400 < zs.length) : wordTx zs = [] := by unfold wordTx; rw [if_neg (by omega)]
theorem wordTx_bad {zs : List Int} (h : allIn zs 0 2 = false) : wordTx zs = [] := by unfold wordTx; rw [if_neg (by rw [h]; simp)]
theorem wordTx_none {zs : List Int} (h : zs.length = 0) : wordTx zs = [45] := by
  have : zs = [] := List.eq_nil_of_length_eq_zero h
  subst this; rfl
theorem wordTx_some {zs : List Int} (h : zs.length ≤ 400) (h2 : allIn zs 0 2 = true) (h3 : zs.length ≠ 0) : wordTx zs = zs.map letterOf := by unfold wordTx; rw [if_pos ⟨h, h2⟩, if_neg h3]
theorem letters_take (zs : List Int) (k : Nat) (h : k < zs.length) : byteVals ((zs.take k).map letterOf) ++ [.int .u8 ((letterOf (zs.getD k 0)).toNat : Int)] = byteVals ((zs.take (k + 1)).map letterOf) := by
  rw [byteVals_snoc, List.take_succ_eq_append_getElem h, List.map_append]
  simp [List.getD_eq_getElem?_getD, h]

theorem ret_str {a b : List UInt8} (h : a = b) : Ending.returned (.string ⟨a.toArray⟩) = .returned (.string ⟨b.toArray⟩) := by rw [h]

theorem specWordText_any (v : Value) (zs : List Int) (w : World) (h1 : Ints w v zs) :
    Calls Try.prog 18 #[v] w (RetB (.string ⟨(wordTx zs).toArray⟩) w) := by
  obtain ⟨ao1, p1, o1, c1, H1⟩ := h1.open
  have hv := H1.val
  subst hv
  have hm := H1.len
  clear h1
  by_cases hlong : 400 < zs.length
  · rw [wordTx_long hlong]
    go_enter Try.func18, Try.ntmps18
    go_wp2
    go_ret
    exact ⟨rfl, Below.refl _ _⟩
  · have hl4 : zs.length ≤ 400 := by omega
    have own0 : (w.alloc (.cells #[] 5)).ownsRow w.heap.size 5 1 (.slice (some ⟨w.heap.size, 0, none⟩) 0 0) 0 (byteVals ((zs.take 0).map letterOf)) := World.ownsRow_made w #[] 0 (Nat.le_refl _) (by unfold maxLen; omega) (by simp)
    have HO0 := Lib.hid own0
    clear own0 hlong
    go_enter Try.func18, Try.ntmps18
    go_wp2
    go_loopw [3, 4] (fun u i wr => ∃ k : Nat, k ≤ zs.length ∧ i = .int .i64 k ∧ Hid (allIn (zs.take k) 0 2 = true) ∧ Hid (wr.ownsRow w.heap.size 5 1 u k (byteVals ((zs.take k).map letterOf))) ∧ Below w.heap.size w wr) (fun _ i _ => zs.length - (intOf i).toNat)
    case atStart => exact ⟨0, Nat.zero_le _, rfl, rfl, HO0.out, below_alloc (Below.refl _ _) _⟩
    case round =>
      obtain ⟨k, hk, rfl, hall, HO, hb⟩ := hrel
      by_cases hlt : k < zs.length
      · have i1 := idx_of Try.underlying27 size1_int (c := c1) H1.adr hlt .i64
        obtain ⟨z, hz, d1⟩ := H1.at hlt
        replace d1 := (hb.cell (block_lt_of_cell d1)).trans d1
        have HC := Lib.hid (l00In_any z 0 2 wr)
        have HT := Lib.hid (allIn_take zs k 0 2 hlt)
        have HZ := Lib.hid hz
        cases hin : inB z 0 2
        · rw [hin] at HC
          have HB := Lib.hid hin
          clear hin hz
          go_wp2_with fail
          refine HC.out.mono ?_
          rintro e w2 ⟨rfl, rfl⟩
          go_wp2
          go_ret
          exact ⟨ret_str (a := []) (wordTx_bad (allIn_no hlt (by rw [HZ.out]; exact HB.out))).symm, hb⟩
        · rw [hin] at HC
          have hzz := inB_true.1 hin
          obtain ⟨hz0, hz2⟩ := hzz
          have HLt := Lib.hid (letterOf_toNat ⟨hz0, hz2⟩)
          have HB := Lib.hid hin
          have HLT := Lib.hid (letters_take zs k hlt)
          clear hin hz
          go_wp2_with fail
          refine HC.out.mono ?_
          rintro e w2 ⟨rfl, rfl⟩
          go_wp2_with (at_builtin; refine wpList_push elem_u8 rfl (.tmp 21) (.tmp 28) rfl w.heap.size rfl HO.out _ rfl rfl (by unfold maxLen; omega) (by omega) hb.size ?_; intro v' w1 hown' hgr hnn)
          have hb' : Below w.heap.size w w1 := Below.grown hb hgr hb.size (fun g hg => (own_block HO.out hg).1)
          rw [← HLt.out] at hown'
          have e1 := HLT.out
          rw [HZ.out] at e1
          rw [e1] at hown'
          have HN := Lib.hid hown'
          clear hown' hgr e1 hb
          go_wp2
          go_roundw
          case rel => exact ⟨k + 1, by omega, by go_num, by unfold Hid; rw [HT.out, hall.out, HZ.out, HB.out]; rfl, HN.out, hb'⟩
          case measure => simp [intOf]; omega
      · obtain rfl : k = zs.length := by omega
        have hall2 := hall.out
        rw [List.take_length] at hall2
        have HA := Lib.hid hall2
        obtain ⟨au, mu, cu, rfl, HMu⟩ := own_shape HO.out
        have ho := HO.out
        rw [List.take_length] at ho
        have hrun := run_string_own (P := Try.prog) Try.underlying67 Try.underlying5 Try.underlying9 ho
        by_cases h0 : zs.length = 0
        · have hmu : mu = 0 := by rw [HMu.out]; exact h0
          subst hmu
          have HH0 := Lib.hid h0
          have e := wordTx_none h0
          have HE := Lib.hid e
          clear hall2 hall ho hrun h0 e
          go_wp2
          go_ret
          exact ⟨ret_str (a := [45]) HE.out.symm, hb⟩
        · have hmu : mu ≠ 0 := by rw [HMu.out]; exact h0
          have hmb : ((mu : Int) == 0) = false := by simp; omega
          have e := wordTx_some hl4 HA.out h0
          rw [← e] at hrun
          obtain ⟨s, hs⟩ : ∃ s : ByteArray, s = ⟨(wordTx zs).toArray⟩ := ⟨_, rfl⟩
          rw [← hs] at hrun
          have HE := Lib.hid hs
          clear hall2 hall ho e hs h0
          go_wp2
          go_ret
          exact ⟨congrArg (fun t => Ending.returned (.string t)) HE.out, hb⟩

theorem implWordText_any (v : Value) (zs : List Int) (w : World) (h1 : Ints w v zs) :
    Calls Try.prog 20 #[v] w (RetB (.string ⟨(wordTx zs).toArray⟩) w) := by
  obtain ⟨ao1, p1, o1, c1, H1⟩ := h1.open
  have hv := H1.val
  subst hv
  have hm := H1.len
  have HW := Lib.hid (areWithin_any _ zs 0 2 w h1)
  clear h1
  by_cases hlong : 400 < zs.length
  · rw [wordTx_long hlong]
    go_enter Try.func20, Try.ntmps20
    go_wp2
    go_ret
    exact ⟨rfl, Below.refl _ _⟩
  have hl4 : zs.length ≤ 400 := by omega
  clear hlong
  cases hall : allIn zs 0 2
  · rw [wordTx_bad hall]
    rw [hall] at HW
    clear hall
    go_enter Try.func20, Try.ntmps20
    go_wp2_with fail
    refine HW.out.mono ?_
    rintro e w1 ⟨rfl, hb⟩
    go_wp2
    go_ret
    exact ⟨rfl, hb⟩
  by_cases h0 : zs.length = 0
  · rw [wordTx_none h0]
    rw [hall] at HW
    rw [h0] at HW ⊢
    clear hall hl4 hm h0 H1
    go_enter Try.func20, Try.ntmps20
    go_wp2_with fail
    refine HW.out.mono ?_
    rintro e w1 ⟨rfl, hb⟩
    go_wp2
    go_ret
    exact ⟨rfl, hb⟩
  have HE := Lib.hid (wordTx_some hl4 hall h0)
  have hne : ((zs.length : Int) == 0) = false := beq_eq_false_iff_ne.2 (by omega)
  rw [hall] at HW
  have HALL := Lib.hid hall
  clear hall h0
  go_enter Try.func20, Try.ntmps20
  go_wp2_with fail
  refine HW.out.mono ?_
  rintro e w1 ⟨rfl, hb1⟩
  have own0 : (w1.alloc (.cells #[] 5)).ownsRow w1.heap.size 5 1 (.slice (some ⟨w1.heap.size, 0, none⟩) 0 0) 0 (byteVals ((zs.take 0).map letterOf)) := World.ownsRow_made w1 #[] 0 (Nat.le_refl _) (by unfold maxLen; omega) (by simp)
  have HO0 := Lib.hid own0
  clear own0
  go_wp2
  go_loopw [3, 5, 20] (fun u _ i wr => ∃ k : Nat, k ≤ zs.length ∧ i = .int .i64 k ∧ Hid (wr.ownsRow w1.heap.size 5 1 u k (byteVals ((zs.take k).map letterOf))) ∧ Below w1.heap.size w1 wr) (fun _ _ i _ => zs.length - (intOf i).toNat)
  case atStart => exact ⟨0, Nat.zero_le _, rfl, HO0.out, below_alloc (Below.refl _ _) _⟩
  case round =>
    obtain ⟨k, hk, rfl, HO, hb⟩ := hrel
    have hbw := below_trans hb1 hb
    by_cases hlt : k < zs.length
    · have i1 := idx_of Try.underlying27 size1_int (c := c1) H1.adr hlt .i64
      obtain ⟨z, hz, d1⟩ := H1.at hlt
      replace d1 := (hbw.cell (block_lt_of_cell d1)).trans d1
      have hzz : 0 ≤ z ∧ z ≤ 2 := by
        have h := HALL.out
        unfold allIn at h
        rw [List.all_eq_true] at h
        refine inB_true.1 (h z ?_)
        rw [← hz, List.getD_eq_getElem?_getD, List.getElem?_eq_getElem hlt]
        exact List.getElem_mem hlt
      obtain ⟨hz0, hz2⟩ := hzz
      have HZ := Lib.hid hz
      have HLt := Lib.hid (letterOf_toNat ⟨hz0, hz2⟩)
      have HLT := Lib.hid (letters_take zs k hlt)
      clear hz
      go_wp2_with (at_builtin; refine wpList_push elem_u8 rfl (.tmp 24) (.tmp 28) rfl w1.heap.size rfl HO.out _ rfl rfl (by unfold maxLen; omega) (by omega) hb.size ?_; intro v' w2 hown' hgr hnn)
      have hb' : Below w1.heap.size w1 w2 := Below.grown hb hgr hb.size (fun g hg => (own_block HO.out hg).1)
      rw [← HLt.out] at hown'
      have e1 := HLT.out
      rw [HZ.out] at e1
      rw [e1] at hown'
      have HN := Lib.hid hown'
      clear hown' hgr e1 hb hbw
      go_wp2
      go_roundw
      case rel => exact ⟨k + 1, by omega, by go_num, HN.out, hb'⟩
      case measure => simp [intOf]; omega
    · obtain rfl : k = zs.length := by omega
      obtain ⟨au, mu, cu, rfl, HMu⟩ := own_shape HO.out
      have ho := HO.out
      rw [List.take_length] at ho
      have hrun := run_string_own (P := Try.prog) Try.underlying67 Try.underlying5 Try.underlying9 ho
      have e := HE.out
      rw [← e] at hrun
      obtain ⟨s, hs⟩ : ∃ s : ByteArray, s = ⟨(wordTx zs).toArray⟩ := ⟨_, rfl⟩
      rw [← hs] at hrun
      have HES := Lib.hid hs
      clear ho e hs
      go_wp2
      go_ret
      exact ⟨congrArg (fun t => Ending.returned (.string t)) HES.out, hbw⟩

end Go.Proofs.Ytbelpdaolcjcmaa
