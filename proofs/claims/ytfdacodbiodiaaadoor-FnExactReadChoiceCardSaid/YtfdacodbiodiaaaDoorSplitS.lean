/- The reference's cut: l01Split computes cutL. -/
import Derived.Test.YtfdacodbiodiaaaDoorNumS
namespace Go.Proofs.YtfdacodbiodiaaaDoor
set_option linter.unusedVariables false
set_option linter.unusedSimpArgs false
open Go.ChangeShapes Go.WideShapes Go.ChangeAt Go.RowKit

theorem elem_stringR : Elem Tryd.prog 46 9 (.string ⟨#[]⟩) 16 := ⟨Tryd.underlying46, by kernel_rfl, rfl⟩
/-- a new slice of texts, whose bytes are these -/
def NewStrs (ps : List (List UInt8)) (w : World) (e : Ending) (w' : World) : Prop :=
  ∃ v, ∃ bs : List ByteArray, e = .returned v ∧ w'.ownsRow w.heap.size 9 1 v bs.length (bs.map Value.string) ∧ bs.map (·.data.toList) = ps ∧ Below w.heap.size w w'

theorem own_emptyS (w : World) (lo : Nat) (h : lo ≤ w.heap.size) : (w.alloc (.cells #[] 9)).ownsRow lo 9 1 (.slice (some ⟨w.heap.size, 0, none⟩) 0 0) 0 [] := World.ownsRow_made w #[] 0 h (by unfold maxLen; omega) (by simp)

theorem cutL_step (c : UInt8) (l : List UInt8) (f k : Nat) (hf : f ≤ k) (hk : k < l.length) (hc : l[k] = c) (hn : c ∉ (l.drop f).take (k - f)) :
    cutL c (l.drop f) = (l.drop f).take (k - f) :: cutL c (l.drop (k + 1)) := by
  have e : l.drop f = (l.drop f).take (k - f) ++ c :: l.drop (k + 1) := by
    conv => lhs; rw [← List.take_append_drop (k - f) (l.drop f)]
    rw [List.drop_drop, show f + (k - f) = k by omega, List.drop_eq_getElem_cons hk, hc]
  conv => lhs; rw [e]
  exact cutL_app c _ _ hn

theorem l01Split_any (s : ByteArray) (c : UInt8) (w : World) (hs : s.size ≤ 1048576) :
    Calls Tryd.prog 33 #[.string s, .int .u8 c.toNat] w (NewStrs (cutL c s.data.toList) w) := by
  have hsl := size_listG s
  have HSL := Lib.hid hsl
  have HE := Lib.hid (own_emptyS w w.heap.size (Nat.le_refl _))
  clear hsl
  go_enter Tryd.func33, Tryd.ntmps33
  go_wp2
  go_loopw [5, 6, 7] (fun u f i wr => ∃ (k g : Nat) (bs : List ByteArray), k ≤ s.size ∧ g ≤ k ∧ bs.length ≤ k ∧ i = .int .i64 k ∧ f = .int .i64 g ∧ Hid (wr.ownsRow w.heap.size 9 1 u bs.length (bs.map Value.string)) ∧ Hid (bs.map (·.data.toList) ++ cutL c (s.data.toList.drop g) = cutL c s.data.toList) ∧ Hid (c ∉ (s.data.toList.drop g).take (k - g)) ∧ Below w.heap.size w wr) (fun _ _ i _ => s.size - (intOf i).toNat)
  case atStart => exact ⟨0, 0, [], Nat.zero_le _, Nat.le_refl _, Nat.le_refl _, rfl, rfl, HE.out, by unfold Hid; simp, by unfold Hid; simp, below_alloc (Below.refl _ _) _⟩
  case round =>
    obtain ⟨k, g, bs, hk, hg, hbs, rfl, rfl, HO, HC, HN, hb2⟩ := hrel
    by_cases hlt : k < s.size
    · by_cases hc : s[k] = c
      · have heq : ((s[k].toNat : Int) == (c.toNat : Int)) = true := by rw [hc]; simp
        have HS := Lib.hid (cutL_step c s.data.toList g k hg (by rw [HSL.out]; exact hlt) hc HN.out)
        clear hc
        go_wp2_with (at_builtin; refine wpList_push elem_stringR rfl (.tmp 20) (.tmp 25) rfl w.heap.size rfl HO.out _ rfl rfl (by unfold maxLen; omega) (by omega) hb2.size ?_; intro v' w1 hown' hgr hnn)
        have hb' : Below w.heap.size w w1 := Below.grown hb2 hgr hb2.size (fun g hg => (own_block HO.out hg).1)
        have HN2 := Lib.hid hown'
        have HB' := Lib.hid hb'
        clear hown' hgr hb2 hb'
        go_wp2
        go_roundw
        case rel =>
          refine ⟨k + 1, k + 1, bs ++ [s.extract g k], by omega, by omega, by simp; omega, by go_num, by go_num, ?_, ?_, ?_, HB'.out⟩
          · unfold Hid; simpa using HN2.out
          · unfold Hid
            rw [← HC.out, HS.out]
            simp [List.map_append]
          · unfold Hid; simp
        case measure => simp [intOf]; omega
      · have heq : ((s[k].toNat : Int) == (c.toNat : Int)) = false := by
          rw [beq_eq_false_iff_ne]; intro e; exact hc (UInt8.toNat_inj.1 (by omega))
        have HN2 : Hid (c ∉ (s.data.toList.drop g).take (k + 1 - g)) := by
          unfold Hid
          rw [show k + 1 - g = (k - g) + 1 by omega, List.take_succ_eq_append_getElem (by rw [List.length_drop, HSL.out]; omega)]
          intro hm
          rcases List.mem_append.1 hm with h | h
          · exact HN.out h
          · rw [List.getElem_drop] at h
            simp only [List.mem_singleton] at h
            exact hc (by rw [h]; congr 1; omega)
        clear hc
        go_wp2
        go_roundw
        case rel => exact ⟨k + 1, g, bs, by omega, by omega, by omega, by go_num, rfl, HO.out, HC.out, HN2.out, hb2⟩
        case measure => simp [intOf]; omega
    · obtain rfl : k = s.size := by omega
      have hfin : cutL c (s.data.toList.drop g) = [s.data.toList.drop g] := by
        refine cutL_none c _ ?_
        have := HN.out
        rwa [List.take_of_length_le (by rw [List.length_drop, HSL.out]; omega)] at this
      have HF := Lib.hid hfin
      clear hfin
      go_wp2_with (at_builtin; refine wpList_push elem_stringR rfl (.tmp 29) (.tmp 33) rfl w.heap.size rfl HO.out _ rfl rfl (by unfold maxLen; omega) (by omega) hb2.size ?_; intro v' w1 hown' hgr hnn)
      have hb' : Below w.heap.size w w1 := Below.grown hb2 hgr hb2.size (fun g hg => (own_block HO.out hg).1)
      have HN2 := Lib.hid hown'
      have HB' := Lib.hid hb'
      clear hown' hgr hb2 hb'
      go_wp2
      go_ret
      refine ⟨_, bs ++ [s.extract g s.size], rfl, ?_, ?_, HB'.out⟩
      · simpa using HN2.out
      · rw [← HC.out, HF.out]
        simp [List.map_append, List.take_of_length_le, HSL.out]
end Go.Proofs.YtfdacodbiodiaaaDoor
