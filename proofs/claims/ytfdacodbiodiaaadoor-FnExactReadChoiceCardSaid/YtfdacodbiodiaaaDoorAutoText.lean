/- AutomatonText, of the reference and of the program. -/
import Derived.Test.YtfdacodbiodiaaaDoorText
import Derived.Test.YtfdacodbiodiaaaDoorSpecOk
namespace Go.Proofs.YtfdacodbiodiaaaDoor
set_option linter.unusedVariables false
set_option linter.unusedSimpArgs false
open Go.ChangeShapes Go.WideShapes Go.ChangeAt Go.RowKit

def autoW : ByteArray := ⟨#[97, 117, 116, 111, 109, 97, 116, 111, 110]⟩
def letterW : ByteArray := ⟨#[108, 101, 116, 116, 101, 114]⟩
def autoTx (st : Int) (xss : List (List Int)) : ByteArray := if validB st xss = true then rowsT (lineB autoW [st, xss.length]) letterW xss else ⟨#[]⟩
theorem Good.small {st : Int} {n : Nat} {xss : List (List Int)} (h : Good st n xss) {k : Nat} (hk : k < xss.length) : ∀ z ∈ xss.getD k [], 0 ≤ z ∧ z ≤ 10 := fun z hz => by
  have := (h.rows.row hk).2 z hz
  have := h.hi
  omega

set_option maxRecDepth 100000 in
set_option maxHeartbeats 1000000 in
theorem implAutoText_any (st : Int) (v : Value) (xss : List (List Int)) (w : World) (h1 : Rows2 w v xss) :
    Calls Tryd.prog 45 #[.agg #[.int .i64 st, v]] w (RetB (.string (autoTx st xss)) w) := by
  obtain ⟨ao1, p1, o1, c1, H1⟩ := h1.open
  have hv1 := H1.val
  subst hv1
  have hm := H1.len
  obtain ⟨W1, hW1⟩ : ∃ W1, W1 = w.alloc (.cells #[.int .i64 st, .slice ao1 xss.length c1] 37) := ⟨_, rfl⟩
  have bx : Below w.heap.size w W1 := by rw [hW1]; exact below_alloc (Below.refl _ _) _
  have p0 : W1.cell? ⟨w.heap.size, 0, none⟩ = some (.int .i64 st) := by rw [hW1]; go_simp
  have p1' : W1.cell? ⟨w.heap.size, 1, none⟩ = some (.slice ao1 xss.length c1) := by rw [hW1]; go_simp
  have HOK := Lib.hid (validAuto_any st _ xss W1 (h1.kept bx))
  cases hv : validB st xss
  · rw [show autoTx st xss = ⟨#[]⟩ by simp [autoTx, hv]]
    rw [hv] at HOK
    subst hW1
    clear hv h1 H1
    go_enter Tryd.func45, Tryd.ntmps45
    go_wp2_with fail
    refine HOK.out.mono ?_
    rintro e w2 ⟨rfl, hb⟩
    go_wp2
    go_ret
    exact ⟨rfl, below_trans bx hb⟩
  · obtain ⟨n, hg⟩ := good_of hv
    rw [hv] at HOK
    have hst := hg.st
    have hlo := hg.lo
    have hhi := hg.hi
    have hl1 := hg.len1
    have hl3 := hg.len3
    have HLE := Lib.hid (fun W => lettersAuto_any st ao1 xss.length c1 W hm)
    have HHD := Lib.hid (fun W v (hi : Ints W v [st, (xss.length : Int)]) => line_any autoW v [st, (xss.length : Int)] W hi (by intro z hz; simp at hz; rcases hz with rfl | rfl <;> omega) (by decide) (by simp))
    have HRW := Lib.hid (fun k (hk : k < xss.length) W v (hi : Ints W v (xss.getD k [])) => line_any letterW v (xss.getD k []) W hi (hg.small hk) (by decide) (by rw [hg.row hk]; omega))
    have HTX : Hid (autoTx st xss = rowsT (lineB autoW [st, xss.length]) letterW xss) := by unfold Hid autoTx; rw [if_pos hv]
    have hh0 := lineB_size autoW [st, (xss.length : Int)]
    have hh : (lineB autoW [st, (xss.length : Int)]).size ≤ 20 := Nat.le_trans hh0 (by show 9 + 3 * 2 + 1 ≤ 20; omega)
    have HSZ := Lib.hid (fun k => rowsT_size (n := 10) letterW (xss.take k) (fun r hr => by have := (hg.rows r (List.mem_of_mem_take hr)).1; omega) (lineB autoW [st, (xss.length : Int)]))
    have HTK := Lib.hid (rowsT_take (lineB autoW [st, (xss.length : Int)]) letterW xss)
    have HLS := Lib.hid (fun k (hk : k < xss.length) => (show (lineB letterW (xss.getD k [])).size ≤ 100 from Nat.le_trans (lineB_size _ _) (by rw [hg.row hk]; show 6 + 3 * n + 1 ≤ 100; omega)))
    generalize lineB autoW [st, (xss.length : Int)] = hd at HHD HTX HSZ HTK hh
    subst hW1
    clear hv hg h1 hh0 hst
    go_enter Tryd.func45, Tryd.ntmps45
    go_wp2_with fail
    refine HOK.out.mono ?_
    rintro e w2 ⟨rfl, hb⟩
    replace p0 := below_cell hb p0
    replace p1' := below_cell hb p1'
    have bw2 := below_trans bx hb
    have z0 := block_lt_of_cell p0
    clear hb
    go_wp2
    go_region_held3 (fun w' => Below w2.heap.size w2 w' ∧ ∀ b o, b < w2.heap.size → w'.cell? ⟨b, o, none⟩ = w2.cell? ⟨b, o, none⟩) (first | exact held_start | assumption | exact held_nx (by assumption) (by assumption) | exact held_alloc (by assumption))
      (first
        | (go_simp; go_at_call 74; refine (HLE.out _).mono ?_; rintro e w3 ⟨rfl, hb3⟩)
        | (go_simp; go_at_call 58; refine (HHD.out _ _ (ints_pair _ _ _ _)).mono ?_; rintro e w4 ⟨rfl, rfl⟩))
    all_goals
      rename Below w2.heap.size w2 _ ∧ _ => hS
      obtain ⟨hw4, hcs⟩ := hS
      have q1 := below_cell hw4 p1'
      have bw4 := below_trans bw2 hw4
      clear hcs
      go_wp2
      go_loop [3, 18] (fun o i => ∃ k : Nat, k ≤ xss.length ∧ i = .int .i64 k ∧ o = .string (rowsT hd letterW (xss.take k))) (fun _ i => xss.length - (intOf i).toNat)
      case atStart => exact ⟨0, Nat.zero_le _, rfl, rfl⟩
      case round =>
        obtain ⟨k, hk, rfl, rfl⟩ := hrel
        have hsz := HSZ.out k
        have hlt4 : (xss.take k).length ≤ 3 := by rw [List.length_take]; omega
        have hs6 : letterW.size = 6 := rfl
        have hsz2 : (rowsT hd letterW (xss.take k)).size ≤ 1000 := by
          have := Nat.mul_le_mul_right (letterW.size + 3 * 10 + 1) hlt4
          rw [hs6] at this hsz
          omega
        clear hsz hlt4
        by_cases hlt : k < xss.length
        · have i1 := idx_of Tryd.underlying22 size1_ints (c := c1) H1.adr hlt .i64
          obtain ⟨r1, d2, hr1⟩ := H1.cell k hlt
          have e2 := below_cell bw4 d2
          have HL := Lib.hid (HRW.out k hlt _ _ (hr1.kept bw4))
          have hls := HLS.out k hlt
          have HN := Lib.hid (HTK.out k hlt)
          obtain ⟨ar, mr, cr, rfl, HMr⟩ := hr1.shape
          generalize lineB letterW (xss.getD k []) = ln at HL HN hls
          generalize rowsT hd letterW (xss.take k) = o at HN hsz2 ⊢
          clear hr1
          go_wp2_with fail
          refine HL.out.mono ?_
          rintro e w5 ⟨rfl, rfl⟩
          go_wp2
          go_round
          case rel => exact ⟨k + 1, by omega, by go_num, by rw [HN.out]⟩
          case measure => simp [intOf]; omega
        · obtain rfl : k = xss.length := by omega
          rw [List.take_length]
          go_wp2
          go_ret
          exact ⟨by rw [HTX.out]; rfl, bw4⟩


end Go.Proofs.YtfdacodbiodiaaaDoor
