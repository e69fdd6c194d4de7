/- The reference's numbers of words: l01Numbers computes allS numS. -/
import Derived.Test.YtfdacodbiodiaaaDoorSplitS
namespace Go.Proofs.YtfdacodbiodiaaaDoor
set_option linter.unusedVariables false
set_option linter.unusedSimpArgs false
open Go.ChangeShapes Go.WideShapes Go.ChangeAt Go.RowKit

theorem elem_intR : Elem Tryd.prog 45 2 (.int .i64 0) 8 := ⟨Tryd.underlying45, by kernel_rfl, rfl⟩
theorem size1_stringR : ∀ w, (sizeOf 9).run Tryd.prog w = .ok 1 w := fun _ => by kernel_rfl
/-- numbers, and whether all were -/
def NumsRet (r : Option (List Int)) (w : World) (e : Ending) (w' : World) : Prop :=
  ∃ v, ∃ zs : List Int, e = .returned (.tuple #[v, .bool r.isSome]) ∧ w'.ownsRow w.heap.size 2 1 v zs.length (zs.map (Value.int .i64)) ∧ (∀ ys, r = some ys → zs = ys) ∧ Below w.heap.size w w'

theorem own_emptyR (w : World) (lo : Nat) (h : lo ≤ w.heap.size) : (w.alloc (.cells #[] 2)).ownsRow lo 2 1 (.slice (some ⟨w.heap.size, 0, none⟩) 0 0) 0 [] := World.ownsRow_made w #[] 0 h (by unfold maxLen; omega) (by simp)

theorem l01Numbers_any (bs : List ByteArray) (b o c fr : Nat) (w : World) (hn : bs.length ≤ 1048577) (hsz : ∀ x ∈ bs, x.size ≤ 1048576) (hfr : fr ≤ bs.length)
    (hb : b < w.heap.size) (hc : ∀ k (h : k < bs.length), w.cell? ⟨b, o + k, none⟩ = some (.string bs[k])) :
    Calls Tryd.prog 32 #[.slice (some ⟨b, o, none⟩) bs.length c, .int .i64 fr] w (NumsRet (allS numS ((bs.map (·.data.toList)).drop fr)) w) := by
  have HE := Lib.hid (own_emptyR w w.heap.size (Nat.le_refl _))
  have HC := Lib.hid hc
  have HSZ := Lib.hid hsz
  have HNUM := Lib.hid l01Number_any
  clear hc hsz
  go_enter Tryd.func32, Tryd.ntmps32
  go_wp2
  go_loopw [6, 7] (fun u i wr => ∃ (k : Nat) (zs : List Int), fr ≤ k ∧ k ≤ bs.length ∧ zs.length ≤ k ∧ i = .int .i64 k ∧ Hid (wr.ownsRow w.heap.size 2 1 u zs.length (zs.map (Value.int .i64))) ∧ Hid (allS numS ((bs.map (·.data.toList)).drop fr) = (allS numS ((bs.map (·.data.toList)).drop k)).map (zs ++ ·)) ∧ Below w.heap.size w wr) (fun _ i _ => bs.length - (intOf i).toNat)
  case atStart => exact ⟨fr, [], Nat.le_refl _, hfr, Nat.zero_le _, rfl, HE.out, by unfold Hid; cases allS numS ((bs.map (·.data.toList)).drop fr) <;> rfl, below_alloc (Below.refl _ _) _⟩
  case round =>
    obtain ⟨k, zs, hfk, hk, hzl, rfl, HO, HA, hb2⟩ := hrel
    by_cases hlt : k < bs.length
    · have i1 := idx_of Tryd.underlying46 size1_stringR (ao := some ⟨b, o, none⟩) (b := b) (o := o) (n := bs.length) (c := c) (fun _ => rfl) hlt .i64
      have e1 : wr.cell? ⟨b, o + k, none⟩ = some (.string bs[k]) := (hb2.cell hb).trans (HC.out k hlt)
      have hd : (bs.map (·.data.toList)).drop k = bs[k].data.toList :: (bs.map (·.data.toList)).drop (k + 1) := by
        rw [List.drop_eq_getElem_cons (by simpa using hlt), List.getElem_map]
      have hk1 := HNUM.out bs[k] wr (HSZ.out _ (List.getElem_mem _))
      generalize hx : bs[k] = x at hk1 e1 hd
      have hA := HA.out
      rw [hd, allS] at hA
      have HK := Lib.hid hk1
      clear hx hd hk1
      cases hnx : numS x.data.toList with
      | none =>
        rw [hnx] at hA
        have HA2 := Lib.hid hA
        have HX := Lib.hid hnx
        clear hA hnx
        go_wp2_with fail
        refine HK.out.mono ?_
        unfold NumRet
        rw [HX.out]
        rintro e w1 ⟨rfl, rfl⟩
        go_wp2
        go_ret2
        rw [HA2.out]
        exact ⟨_, zs, rfl, HO.out, (by intro ys h; cases h), hb2⟩
      | some y =>
        rw [hnx] at hA
        have HA2 : Hid (allS numS ((bs.map (·.data.toList)).drop fr) = (allS numS ((bs.map (·.data.toList)).drop (k + 1))).map ((zs ++ [y]) ++ ·)) := by
          unfold Hid
          rw [hA]
          cases allS numS ((bs.map (·.data.toList)).drop (k + 1)) <;> simp
        have HX := Lib.hid hnx
        clear hA hnx
        go_wp2_with fail
        refine HK.out.mono ?_
        unfold NumRet
        rw [HX.out]
        rintro e w1 ⟨rfl, rfl⟩
        go_wp2_with (at_builtin; refine wpList_push elem_intR rfl (.tmp 29) (.tmp 31) rfl w.heap.size rfl HO.out _ rfl rfl (by unfold maxLen; omega) (by omega) hb2.size ?_; intro v' w1 hown' hgr hnn)
        have hb' : Below w.heap.size w w1 := Below.grown hb2 hgr hb2.size (fun g hg => (own_block HO.out hg).1)
        have HN2 := Lib.hid hown'
        have HB' := Lib.hid hb'
        clear hown' hgr hb2 hb'
        go_wp2
        go_roundw
        case rel => exact ⟨k + 1, zs ++ [y], by omega, by omega, by simp; omega, by go_num, by unfold Hid; simpa using HN2.out, HA2.out, HB'.out⟩
        case measure => simp [intOf]; omega
    · obtain rfl : k = bs.length := by omega
      have hA := HA.out
      have h0 : (bs.map (·.data.toList)).drop bs.length = [] := List.drop_of_length_le (by simp)
      rw [h0] at hA
      have HA2 := Lib.hid hA
      clear hA h0
      go_wp2
      go_ret2
      rw [HA2.out]
      exact ⟨_, zs, rfl, HO.out, (by intro ys h; simpa [allS] using h), hb2⟩
end Go.Proofs.YtfdacodbiodiaaaDoor
