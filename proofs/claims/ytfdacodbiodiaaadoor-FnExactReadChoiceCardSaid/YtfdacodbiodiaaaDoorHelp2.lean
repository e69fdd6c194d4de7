/- The laws' own helpers that make or write memory: toInt64S, toInt64SS, markInt64S, markInt64SS. One contract each. -/
import Derived.Test.YtfdacodbiodiaaaDoorHelp1
import Derived.Test.YtfdacodbiodiaaaDoorOwn
namespace Go.Proofs.YtfdacodbiodiaaaDoor
set_option linter.unusedVariables false
set_option linter.unusedSimpArgs false
open Go.ChangeShapes Go.WideShapes Go.ChangeAt Go.RowKit

theorem info_int : (Tryd.prog.info? 2).map (fun i => (i.zero, i.size, i.bytes)) = some (some (.int .i64 0), 1, 8) := by kernel_rfl
theorem info_ints : (Tryd.prog.info? 45).map (fun i => (i.zero, i.size, i.bytes)) = some (some (.slice none 0 0), 1, 24) := by kernel_rfl


theorem markInts_any (v : Value) (lo n : Nat) (xs : List Int) (k0 : Int) (w : World) (hown : w.ownsRow lo 2 1 v n (xs.map (Value.int .i64))) (h0 : 0 ≤ k0) (hk0 : k0 + n ≤ 4611686018427387904) :
    Calls Tryd.prog 61 #[v, .int .i64 k0] w fun e w' => e = .returned (.int .i64 (k0 + n)) ∧ w'.ownsRow lo 2 1 v n ((run k0 n).map (Value.int .i64)) ∧ w.grownBy w' v.ownBlock := by
  have hn : xs.length = n := by have := hown.1; simpa using this
  subst hn
  by_cases hn0 : xs.length = 0
  · have hv : ∃ ao c, v = .slice ao 0 c := by
      rcases hown.2 with ⟨rfl, _⟩ | ⟨g, cap, cur, rfl, _⟩
      · exact ⟨_, _, rfl⟩
      · rw [hn0]; exact ⟨_, _, rfl⟩
    obtain ⟨ao, c, rfl⟩ := hv
    have hx : xs = [] := List.eq_nil_of_length_eq_zero hn0
    subst hx
    have HOWN := Lib.hid hown
    clear hown
    go_enter Tryd.func61, Tryd.ntmps61
    go_wp2
    refine wp_loop_rounds 1 ?_
    rw [rounds_succ]
    go_wp2
    go_ret
    exact ⟨by simp, by simpa [run] using HOWN.out, World.grownBy.refl _ _⟩
  · obtain ⟨g, cap, rfl, hcap⟩ := own_some hown (by omega)
    have HOWN := Lib.hid hown
    have hm : xs.length ≤ 4611686018427387904 := by omega
    clear hown
    go_enter Tryd.func61, Tryd.ntmps61
    go_wp2
    go_loopw [1, 5] (fun q i wr => ∃ k : Nat, k ≤ xs.length ∧ i = .int .i64 k ∧ q = .int .i64 (k0 + k) ∧ Hid (wr.ownsRow lo 2 1 (.slice (some ⟨g, 0, none⟩) xs.length cap) xs.length ((run k0 k ++ xs.drop k).map (Value.int .i64))) ∧ w.grownBy wr (some g)) (fun _ i _ => xs.length - (intOf i).toNat)
    case atStart => exact ⟨0, Nat.zero_le _, rfl, by go_num, by simpa [run, Hid] using HOWN.out, World.grownBy.refl _ _⟩
    case round =>
      obtain ⟨k, hk, rfl, rfl, HO, hg⟩ := hrel
      by_cases hlt : k < xs.length
      · have hc := HO.out.cellAt k (by omega)
        have hf := HO.out.frozenAt k
        have hst := HO.out.stored k (.int .i64 (k0 + k))
        have e1 : ((run k0 k ++ xs.drop k).map (Value.int .i64)).set k (.int .i64 (k0 + k)) = (run k0 (k + 1) ++ xs.drop (k + 1)).map (Value.int .i64) := by
          rw [← List.map_set, run_step k0 k xs hlt]
        rw [e1] at hst
        have hsome : (wr.cell? ⟨g, k, none⟩).isSome = true := by rw [hc]; simp [run_length]; omega
        obtain ⟨u, hu⟩ := Option.isSome_iff_exists.1 hsome
        clear hsome
        have hg' := grown_trans hg hst.2
        have HST := Lib.hid hst
        have HG := Lib.hid hg'
        clear hst e1 hc hg hg'
        go_wp2
        go_roundw
        case rel => exact ⟨k + 1, by omega, by go_num, by go_num, HST.out.1, HG.out⟩
        case measure => simp [intOf]; omega
      · obtain rfl : k = xs.length := by omega
        go_wp2
        go_ret
        refine ⟨rfl, ?_, hg⟩
        have := HO.out
        simpa using this


theorem markRows_any (v : Value) (lo hi : Nat) (rs : List Value) (xss : List (List Int)) (k0 : Int) (w : World) (hown : OwnRows w lo v rs xss) (hin : RowsIn lo hi v rs xss.length) (h0 : 0 ≤ k0) (hk0 : k0 + bulk2 xss ≤ 4611686018427387904) :
    Calls Tryd.prog 30 #[v, .int .i64 k0] w fun e w' => e = .returned (.int .i64 (k0 + bulk2 xss)) ∧ OwnRows w' lo v rs (numRows k0 xss) ∧ Chg lo hi w w' := by
  obtain ⟨ao1, p1, o1, c1, H1⟩ := hown.reads.open
  obtain rfl := H1.val
  have hm := H1.len
  have hlt0 : 0 < xss.length → p1 < w.heap.size := fun h => block_lt_of_cell (H1.cell 0 h).choose_spec.1
  have HOWN := Lib.hid hown
  clear hown
  go_enter Tryd.func30, Tryd.ntmps30
  go_wp2
  go_loopw [1, 5] (fun q i wr => ∃ k : Nat, k ≤ xss.length ∧ i = .int .i64 k ∧ q = .int .i64 (k0 + bulk2 (xss.take k)) ∧ Hid (OwnRows wr lo (.slice ao1 xss.length c1) rs ((numRows k0 xss).take k ++ xss.drop k)) ∧ Chg lo hi w wr) (fun _ i _ => xss.length - (intOf i).toNat)
  case atStart => exact ⟨0, Nat.zero_le _, rfl, by simp [bulk2], by simpa [Hid] using HOWN.out, Chg.refl _ _ _⟩
  case round =>
    obtain ⟨k, hk, rfl, rfl, HO, hg⟩ := hrel
    by_cases hlt : k < xss.length
    · have i1 := idx_of Tryd.underlying22 size1_ints (c := c1) H1.adr hlt .i64
      have ho := HO.out
      have hlen : ((numRows k0 xss).take k ++ xss.drop k).length = xss.length := by simp [numRows_length]; omega
      have hrow : ((numRows k0 xss).take k ++ xss.drop k).getD k [] = xss.getD k [] := by
        have hl : ((numRows k0 xss).take k).length = k := by rw [List.length_take, numRows_length]; omega
        simp [List.getD_eq_getElem?_getD, List.getElem?_append, hl]
      have hrs := ho.len
      have hadr := H1.adr (by omega)
      have hout := sl_of_own ho.outer
      obtain ⟨ao2, p2, o2, c2, hv2, ha2, hc2, hl2⟩ := hout
      have hp : p2 = p1 ∧ o2 = o1 := by
        have e1 := ha2 (by omega)
        rw [Value.slice.injEq] at hv2
        rw [hv2.1, e1] at hadr
        simpa using hadr
      obtain ⟨rfl, rfl⟩ := hp
      have d1 := hc2 k (by omega)
      have hr := ho.row k (by omega)
      rw [hrow] at hr
      have e1 := bulk2_take xss k hlt
      have e2 := bulk2_le xss (k + 1)
      have HC := Lib.hid (markInts_any (rs.getD k undef) lo (xss.getD k []).length (xss.getD k []) (k0 + bulk2 (xss.take k)) wr hr (by omega) (by omega))
      obtain ⟨r, hrr⟩ : ∃ r, r = rs.getD k undef := ⟨_, rfl⟩
      rw [← hrr] at d1 HC
      obtain ⟨q, hq⟩ : ∃ q : Nat, q = bulk2 (xss.take k) := ⟨_, rfl⟩
      rw [← hq] at HC e1 ⊢
      obtain ⟨m, hm'⟩ : ∃ m : Nat, m = (xss.getD k []).length := ⟨_, rfl⟩
      rw [← hm'] at HC e1
      have E1 := Lib.hid e1
      have HQ := Lib.hid hq
      have HM := Lib.hid hm'
      have HR := Lib.hid hrr
      have HLEN := Lib.hid hlen
      have HROW := Lib.hid hrow
      clear hr e1 e2 hq hm' hrr hlen hrow ho hrs hadr hv2 ha2 hc2 hl2
      go_wp2_with fail
      refine HC.out.mono ?_
      rintro e w2 ⟨rfl, ho2, hg2⟩
      have ho := HO.out
      have ht := ho.turned (k := k) (ys := run (k0 + q) m) (w' := w2) (by rw [HLEN.out]; exact hlt) (by rw [HROW.out, run_length, HM.out]) (by rw [← HR.out]; exact hg2) (by rw [run_length, ← HR.out]; exact ho2)
      have es : ((numRows k0 xss).take k ++ xss.drop k).set k (run (k0 + q) m) = (numRows k0 xss).take (k + 1) ++ xss.drop (k + 1) := by
        have hl : ((numRows k0 xss).take k).length = k := by rw [List.length_take, numRows_length]; omega
        have hk2 : k < (numRows k0 xss).length := by rw [numRows_length]; exact hlt
        rw [List.drop_eq_getElem_cons hlt, List.set_append_right _ _ (by omega), hl, Nat.sub_self, List.set_cons_zero, List.take_succ_eq_append_getElem hk2, List.append_assoc]
        have := numRows_getD xss k0 k hlt
        rw [List.getD_eq_getElem?_getD, List.getElem?_eq_getElem hk2] at this
        simp only [Option.getD_some] at this
        rw [this, ← HQ.out, ← HM.out]
        rfl
      rw [es] at ht
      have hg3 : Chg lo hi w w2 := hg.trans (Chg.of_grown hg2 fun g hgg => hin.row k hlt g (by rw [← HR.out]; exact hgg))
      have HT := Lib.hid ht
      have HG := Lib.hid hg3
      clear ht es ho ho2 hg2 hg3 hg
      go_wp2
      go_roundw
      case rel => exact ⟨k + 1, by omega, by go_num, by rw [E1.out]; go_num, HT.out, HG.out⟩
      case measure => simp [intOf]; omega
    · obtain rfl : k = xss.length := by omega
      have ho := HO.out
      rw [List.take_of_length_le (by rw [numRows_length]; omega), List.drop_of_length_le (by omega), List.append_nil] at ho
      have HF := Lib.hid ho
      clear ho
      rw [List.take_length]
      go_wp2
      go_ret
      exact ⟨rfl, HF.out, hg⟩

/-- it returns a new struct of a number and rows -/
def NewAuto (st : Int) (xss : List (List Int)) (w : World) (e : Ending) (w' : World) : Prop :=
  ∃ v rs, e = .returned (.agg #[.int .i64 st, v]) ∧ OwnRows w' w.heap.size v rs xss ∧ Below w.heap.size w w'


end Go.Proofs.YtfdacodbiodiaaaDoor
