/- PairTable, of the reference and of the program. -/
import Derived.Test.YtbcfnibpdfonkaaPairs
namespace Go.Proofs.Ytbcfnibpdfonkaa
set_option linter.unusedVariables false
set_option linter.unusedSimpArgs false
open Go.ChangeShapes Go.WideShapes Go.ChangeAt Go.RowKit

def ptZs (st : Int) (xss : List (List Int)) : List (List Int) := if validB st xss = true then ptTo xss st.toNat st.toNat else []

theorem bulk_range (f : Nat → List Int) (m : Nat) : ∀ k, (∀ i, i < k → (f i).length ≤ m) → bulk2 ((List.range k).map f) ≤ k * m := by
  intro k
  induction k with
  | zero => intro _; simp [bulk2]
  | succ k ih =>
    intro h
    have h1 := ih fun i hi => h i (by omega)
    have h2 := h k (by omega)
    unfold bulk2 at h1 ⊢
    rw [List.range_succ, List.map_append, List.map_append, List.sum_append, Nat.succ_mul]
    simp at h1 ⊢
    omega
theorem ptZs_bulk (st : Int) (xss : List (List Int)) : bulk2 (ptZs st xss) ≤ 100 := by
  unfold ptZs
  split
  · rename_i hv
    obtain ⟨n, hg⟩ := good_of hv
    have hn := hg.hi
    have e : st.toNat = n := by have := hg.st; omega
    rw [e]
    have h := bulk_range (fun s => ptRow xss s n) n n fun i _ => by rw [ptRow_len]; exact Nat.le_refl _
    have : n * n ≤ 10 * 10 := Nat.mul_le_mul hn hn
    exact Nat.le_trans h (by omega)
  · simp [bulk2]
theorem get_getD (l : List Value) {i : Nat} (h : i < l.length) : l[i]? = some (l.getD i undef) := by simp [List.getD_eq_getElem?_getD, h]
/-- what is read out of a table of words -/
theorem MTab.at {w : World} {lo g c n : Nat} {Rs : List Value} {zs : Nat → Nat → List Int} {ok : Nat → Nat → Bool} (h : MTab w lo (.slice (some ⟨g, 0, none⟩) Rs.length c) Rs n zs ok) (hn : 0 < n) {s : Nat} (hs : s < Rs.length) :
    ∃ (rg rc : Nat) (rs : List Value), lo ≤ rg ∧ w.cell? ⟨g, s, none⟩ = some (.slice (some ⟨rg, 0, none⟩) n rc) ∧ ∀ t, t < n → w.cell? ⟨rg, t, none⟩ = some (rs.getD t undef) ∧ NilIf (ok s t) (zs s t).length (rs.getD t undef) := by
  obtain ⟨rs, e, hr⟩ := h.row s hs
  have ho := hr.outer
  obtain ⟨rg, rc, hv, _⟩ := own_some ho (by omega)
  refine ⟨rg, rc, rs, (own_block ho (by rw [hv]; rfl)).1, ?_, fun t ht => ⟨?_, (hr.row t (by omega)).2⟩⟩
  · rw [h.outer.cellAt s (by omega), get_getD _ hs, hv, e]
  · rw [hv] at ho
    rw [ho.cellAt t (by omega), get_getD _ (by omega)]

theorem nil_yes : ∀ W, Sem.run Try.prog (binOp .eql 38 (.slice none 0 0) (.slice none 0 0)) W = .ok (.bool true) W := fun _ => by kernel_rfl
theorem nil_no (g n c : Nat) : ∀ W, Sem.run Try.prog (binOp .eql 38 (.slice (some ⟨g, 0, none⟩) n c) (.slice none 0 0)) W = .ok (.bool false) W := fun _ => by kernel_rfl

/-- all blocks behind z that lay in w are as they were -/
def Kept (z : Nat) (w w' : World) : Prop := w.heap.size ≤ w'.heap.size ∧ ∀ b o u, z < b → w.cell? ⟨b, o, none⟩ = some u → w'.cell? ⟨b, o, none⟩ = some u
theorem Kept.next {z : Nat} {w w1 w2 : World} (h : Kept z w w1) (hb : Below w1.heap.size w1 w2) : Kept z w w2 := ⟨Nat.le_trans h.1 hb.size, fun b o u hz hc => below_cell hb (h.2 b o u hz hc)⟩
theorem Kept.grown {z : Nat} {w w1 w2 : World} {r : Option Nat} (h : Kept z w w1) (hg : w1.grownBy w2 r) (hr : r = some z ∨ ∀ g, r = some g → w.heap.size ≤ g) : Kept z w w2 := by
  refine ⟨Nat.le_trans h.1 hg.size, fun b o u hz hc => ?_⟩
  have h1 := h.2 b o u hz hc
  have hbl : b < w.heap.size := block_lt_of_cell hc
  refine (World.cell?_of_block (hg.block b (block_lt_of_cell h1) fun hh => ?_)).trans h1
  rcases hr with hr | hr
  · rw [hr] at hh; cases hh; omega
  · have := hr b hh.symm; omega
theorem side_next {z : Nat} {w w1 : World} {u v : Value} (h : u.ownBlock = some z ∨ ∀ g, u.ownBlock = some g → w.heap.size ≤ g) (hs : SameOrNew u v w1.heap.size) (hl : w.heap.size ≤ w1.heap.size) : v.ownBlock = some z ∨ ∀ g, v.ownBlock = some g → w.heap.size ≤ g := by
  rcases hs with hs | ⟨k, hk, hkl⟩
  · rw [hs]; exact h
  · exact .inr fun g hg => by rw [hk] at hg; cases hg; omega

set_option maxRecDepth 100000 in
set_option maxHeartbeats 4000000 in
theorem specPairTable_any (st : Int) (v : Value) (xss : List (List Int)) (w : World) (h1 : Rows2 w v xss) :
    Calls Try.prog 32 #[.agg #[.int .i64 st, v]] w (NewRows2 (ptZs st xss) (rkCd st xss) w) := by
  obtain ⟨ao, m, c, rfl, HM⟩ := h1.shape
  obtain ⟨W1, hW1⟩ : ∃ W1, W1 = w.alloc (.cells #[.int .i64 st, .slice ao m c] 26) := ⟨_, rfl⟩
  have bx : Below w.heap.size w W1 := by rw [hW1]; exact below_alloc (Below.refl _ _) _
  have p0 : W1.cell? ⟨w.heap.size, 0, none⟩ = some (.int .i64 st) := by rw [hW1]; go_simp
  have p1 : W1.cell? ⟨w.heap.size, 1, none⟩ = some (.slice ao m c) := by rw [hW1]; go_simp
  have HOK := Lib.hid (l01Ok_any w.heap.size 0 st _ xss W1 p0 p1 (h1.kept bx))
  cases hv : validB st xss
  · rw [show ptZs st xss = [] by simp [ptZs, hv], show rkCd st xss = 1 by simp [rkCd, hv]]
    rw [hv] at HOK
    subst hW1
    clear hv h1
    go_enter Try.func32, Try.ntmps32
    go_wp2_with fail
    refine HOK.out.mono ?_
    rintro e w2 ⟨rfl, hq⟩
    have hb := hq.below (w.alloc (.cells #[.int .i64 st, .slice ao m c] 26)).heap.size
    have HE := Lib.hid (ownRows_empty w2 w.heap.size (by have := hb.size; simp at this; omega))
    go_wp2
    go_ret2
    exact ⟨_, [], rfl, HE.out, below_trans bx (below_trans hb (below_alloc (Below.refl _ _) _))⟩
  · obtain ⟨n, hg⟩ := good_of hv
    rw [show ptZs st xss = ptTo xss n n by unfold ptZs; rw [if_pos hv, show st.toNat = n by have := hg.st; omega], show rkCd st xss = 0 by simp [rkCd, hv]]
    rw [hv] at HOK
    obtain rfl := hg.st
    have HTB := Lib.hid (fun W (hW : Below W1.heap.size W1 W) => l02Table_any w.heap.size _ xss n W (below_cell hW p0) (below_cell hW p1) ((h1.kept bx).kept hW) hg)
    have E1 : Hid (W1.heap.size = w.heap.size + 1) := by unfold Hid; rw [hW1]; simp
    subst hW1
    clear hv h1 hg
    go_enter Try.func32, Try.ntmps32
    go_wp2_with fail
    refine HOK.out.mono ?_
    rintro e w2 ⟨rfl, hq⟩
    have hb := hq.below (w.alloc (.cells #[.int .i64 n, .slice ao m c] 26)).heap.size
    go_wp2_with fail
    refine (HTB.out _ hb).mono ?_
    rintro e w4 ⟨v4, rs, rfl, ho, hb4⟩
    obtain ⟨a4, m4, c4, rfl, HM4⟩ := own_shape ho.outer
    have HO := Lib.hid ho
    have hsz := hb.size
    have hbb := below_trans bx (below_trans hb hb4)
    clear ho
    go_wp2
    go_ret2
    exact ⟨_, rs, rfl, HO.out.mono (by rw [E1.out] at hsz; omega), hbb⟩

set_option maxRecDepth 100000 in
set_option maxHeartbeats 4000000 in
theorem implPairTable_any (st : Int) (v : Value) (xss : List (List Int)) (w : World) (h1 : Rows2 w v xss) :
    Calls Try.prog 33 #[.agg #[.int .i64 st, v]] w (NewRows2 (ptZs st xss) (rkCd st xss) w) := by
  obtain ⟨ao, m, c, rfl, HM⟩ := h1.shape
  obtain ⟨W1, hW1⟩ : ∃ W1, W1 = w.alloc (.cells #[.int .i64 st, .slice ao m c] 26) := ⟨_, rfl⟩
  have bx : Below w.heap.size w W1 := by rw [hW1]; exact below_alloc (Below.refl _ _) _
  have p0 : W1.cell? ⟨w.heap.size, 0, none⟩ = some (.int .i64 st) := by rw [hW1]; go_simp
  have p1 : W1.cell? ⟨w.heap.size, 1, none⟩ = some (.slice ao m c) := by rw [hW1]; go_simp
  have HOK := Lib.hid (validAuto_any st _ xss W1 (h1.kept bx))
  cases hv : validB st xss
  · rw [show ptZs st xss = [] by simp [ptZs, hv], show rkCd st xss = 1 by simp [rkCd, hv]]
    rw [hv] at HOK
    subst hW1
    clear hv h1
    go_enter Try.func33, Try.ntmps33
    go_wp2_with fail
    refine HOK.out.mono ?_
    rintro e w2 ⟨rfl, hb⟩
    go_wp2
    go_ret2
    exact ⟨_, [], rfl, ownRows_nil _ _, below_trans bx hb⟩
  · obtain ⟨n, hg⟩ := good_of hv
    rw [show ptZs st xss = ptTo xss n n by unfold ptZs; rw [if_pos hv, show st.toNat = n by have := hg.st; omega], show rkCd st xss = 0 by simp [rkCd, hv]]
    rw [hv] at HOK
    obtain rfl := hg.st
    have hn10 := hg.hi
    have hn1 := hg.lo
    have HMS := Lib.hid (fun W (hW : Below w.heap.size w W) => merges_any n _ xss n W (h1.kept hW) hg)
    have HWL := Lib.hid (fun s t (hs : s < n) (ht : t < n) => wordP_len (p := smallB) (mg_tour hg hs ht) hn10)
    subst hW1
    clear hv h1 hg
    go_enter Try.func33, Try.ntmps33
    go_wp2_with fail
    refine HOK.out.mono ?_
    rintro e w2 ⟨rfl, hb⟩
    replace p0 := below_cell hb p0
    replace p1 := below_cell hb p1
    have bw2 := below_trans bx hb
    have hz2 := block_lt_of_cell p0
    have HE := Lib.hid (ownRows_empty w2 w2.heap.size (Nat.le_refl _))
    have hbe : Below w2.heap.size w2 (w2.alloc (.cells #[] 38)) := below_alloc (Below.refl _ _) _
    go_wp2_with fail
    refine (HMS.out _ (below_trans bw2 hbe)).mono ?_
    rintro e w5 ⟨v5, Rs, rfl, hRs, hTab, hb5⟩
    have hs5 : w2.heap.size + 1 ≤ w5.heap.size := by have := hb5.size; simpa using this
    obtain ⟨tg, tc, rfl, _⟩ := own_some hTab.outer (by omega)
    have htg : w2.heap.size < tg := by have := (own_block hTab.outer rfl).1; simp at this; omega
    have CT := Lib.hid (fun s (hs : s < n) => hTab.at hn1 (s := s) (by omega))
    rw [hRs]
    clear hTab hRs
    have HE5 := Lib.hid (HE.out.below hb5)
    have hbw5 := below_trans hbe hb5
    go_wp2
    go_loopw [4, 18] (fun u i wr => ∃ s : Nat, s ≤ n ∧ i = .int .i64 s ∧ Hid (∃ rs : List Value, OwnRows wr w2.heap.size u rs (ptTo xss n s)) ∧ Hid (u.ownBlock = some w2.heap.size ∨ ∀ g, u.ownBlock = some g → w5.heap.size ≤ g) ∧ Hid (Kept w2.heap.size w5 wr) ∧ Below w2.heap.size w2 wr) (fun _ i _ => n - (intOf i).toNat)
    case atStart => exact ⟨0, Nat.zero_le _, rfl, ⟨[], HE5.out⟩, .inl rfl, ⟨Nat.le_refl _, fun _ _ _ _ h => h⟩, hbw5⟩
    case round =>
      obtain ⟨s, hs, rfl, HT, HSD, HK, hbr⟩ := hrel
      obtain ⟨rs, hT⟩ := HT.out
      obtain ⟨au, mu, cu, rfl, HMu⟩ := own_shape hT.outer
      have HT2 := Lib.hid hT
      clear HT hT
      by_cases hlt : s < n
      · obtain ⟨rg, rc, us, hrg, d0, hrow⟩ := CT.out s hlt
        have hrg2 : w2.heap.size < rg := by simp at hrg; omega
        replace d0 := HK.out.2 _ _ _ htg d0
        have HRW := Lib.hid hrow
        have i1 := idx_of Try.underlying66 size1_rows (ao := some ⟨tg, 0, none⟩) (b := tg) (o := 0) (n := n) (c := tc) (fun _ => rfl) hlt .i64
        rw [Nat.zero_add] at i1
        obtain ⟨wo, rfl⟩ : ∃ wo : World, wo = wr := ⟨_, rfl⟩
        have HE2 := Lib.hid (own_empty wo wo.heap.size (Nat.le_refl _) 2)
        have hbe2 : Below wo.heap.size wo (wo.alloc (.cells #[] 2)) := below_alloc (Below.refl _ _) _
        have hlow := hbr.size
        clear hrow hrg
        go_wp2
        go_loopw [7, 25] (fun u i wr => ∃ t : Nat, t ≤ n ∧ i = .int .i64 t ∧ Hid (wr.ownsRow wo.heap.size 2 1 u t ((ptRow xss s t).map (Value.int .i64))) ∧ Below wo.heap.size wo wr) (fun _ i _ => n - (intOf i).toNat)
        case atStart => exact ⟨0, Nat.zero_le _, rfl, by simpa [Hid, ptRow] using HE2.out, hbe2⟩
        case round =>
          obtain ⟨t, ht, rfl, HR, hb2⟩ := hrel
          obtain ⟨ar, mr, cr, rfl, HMr⟩ := own_shape HR.out
          by_cases hlt2 : t < n
          · obtain ⟨d1, hni⟩ := HRW.out t hlt2
            replace d1 := (HK.out.next hb2).2 _ _ _ hrg2 d1
            have i2 := idx_of Try.underlying22 size1_ints (ao := some ⟨rg, 0, none⟩) (b := rg) (o := 0) (n := n) (c := rc) (fun _ => rfl) hlt2 .i64
            rw [Nat.zero_add] at i2
            have HL : Hid ((mgW xss s t).length ≤ 1024) := HWL.out s t hlt hlt2
            have HS := Lib.hid (ptRow_succ xss s t)
            have hml : Hid (mgL xss s t = if mgOk xss s t = true then ((mgW xss s t).length : Int) else -1) := rfl
            generalize mgW xss s t = zs at HL hml hni
            generalize mgOk xss s t = ok at hml hni
            obtain ⟨x, hx⟩ : ∃ x, x = us.getD t undef := ⟨_, rfl⟩
            rw [← hx] at d1 hni
            have hzl := HL.out
            clear hx HL
            cases ok
            · obtain rfl := hni.1 rfl
              have hnil := nil_yes
              have hms : mgL xss s t = -1 := hml.out
              rw [hms] at HS
              have HS2 := Lib.hid HS.out
              clear hms HS hml hni
              go_wp2_with fail
              refine (sizeInts_any _ _ _ _ (by omega)).mono ?_
              rintro e w6 ⟨rfl, hw6⟩
              replace hw6 := hw6.symm
              subst hw6
              go_wp2_with (at_builtin; refine wpList_push elem_int rfl (.tmp 33) (.tmp 35) rfl wo.heap.size rfl HR.out _ rfl rfl (by unfold maxLen; omega) (by omega) hb2.size ?_; intro v6 w6 ho6 hg6 hs6)
              have HR6 := Lib.hid ho6
              have hb6 : Below wo.heap.size wo w6 := Below.grown hb2 hg6 hb2.size (fun g hg => (own_block HR.out hg).1)
              clear ho6 hg6 hs6
              go_wp2
              go_roundw
              case rel => exact ⟨t + 1, by omega, by go_num, by rw [← HS2.out, ← snocInt]; exact HR6.out, hb6⟩
              case measure => simp [intOf]; omega
            · obtain ⟨xg, xc, rfl⟩ := hni.2 rfl
              have hnil := nil_no xg zs.length xc
              have hms : mgL xss s t = (zs.length : Int) := hml.out
              rw [hms] at HS
              have HS2 := Lib.hid HS.out
              clear hms HS hml hni
              go_wp2_with fail
              refine (sizeInts_any _ _ _ _ (by omega)).mono ?_
              rintro e w6 ⟨rfl, hw6⟩
              replace hw6 := hw6.symm
              subst hw6
              go_wp2_with (at_builtin; refine wpList_push elem_int rfl (.tmp 33) (.tmp 35) rfl wo.heap.size rfl HR.out _ rfl rfl (by unfold maxLen; omega) (by omega) hb2.size ?_; intro v6 w6 ho6 hg6 hs6)
              have HR6 := Lib.hid ho6
              have hb6 : Below wo.heap.size wo w6 := Below.grown hb2 hg6 hb2.size (fun g hg => (own_block HR.out hg).1)
              clear ho6 hg6 hs6
              go_wp2
              go_roundw
              case rel => exact ⟨t + 1, by omega, by go_num, by rw [← HS2.out, ← snocInt]; exact HR6.out, hb6⟩
              case measure => simp [intOf]; omega
          · obtain rfl : t = n := by omega
            have HT3 := Lib.hid (HT2.out.below hb2)
            have HAP := Lib.hid (HT2.out.apart_new HR.out)
            have HRW2 : Hid (wr.ownsRow wo.heap.size 2 1 (.slice ar mr cr) (ptRow xss s t).length ((ptRow xss s t).map (Value.int .i64))) := by unfold Hid; rw [ptRow_len]; exact HR.out
            have hpl : (ptTo xss t s).length = s := ptTo_len _ _ _
            have hbw := hbr.trans (hb2.mono hlow)
            have hlw : w2.heap.size ≤ wr.heap.size := Nat.le_trans hlow hb2.size
            have HK2 := Lib.hid (HK.out.next hb2)
            go_wp2_with (at_builtin; refine wpList_push elem_ints rfl (.tmp 38) (.tmp 40) rfl w2.heap.size rfl HT3.out.outer _ rfl rfl (by rw [hpl]; unfold maxLen; omega) (by rw [hpl]; omega) hlw ?_; intro v6 w6 ho6 hg6 hs6)
            have hT6 := HT3.out.pushed hg6 ho6 HRW2.out hlow HAP.out
            rw [ptTo_succ] at hT6
            have HT6 := Lib.hid hT6
            have HK6 := Lib.hid (HK2.out.grown hg6 HSD.out)
            have HS6 := Lib.hid (side_next HSD.out hs6 HK2.out.1)
            have hb6 := Below.grown hbw hg6 hlw (fun g hg => (own_block HT3.out.outer hg).1)
            clear ho6 hg6 hs6 hT6 hpl
            go_wp2
            go_roundw
            case rel => exact ⟨s + 1, by omega, by go_num, ⟨_, HT6.out⟩, HS6.out, HK6.out, hb6⟩
            case measure => simp [intOf]; omega
      · obtain rfl : s = n := by omega
        have hbw := below_trans bw2 hbr
        have hlo := bw2.size
        go_wp2
        go_ret2
        exact ⟨_, rs, rfl, HT2.out.mono hlo, hbw⟩

end Go.Proofs.Ytbcfnibpdfonkaa
