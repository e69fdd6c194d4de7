/- The words that merge all pairs; PairTable, of the reference and of the program. -/
import Derived.Test.YtocdkeidjocmkaaShortest
import Derived.Test.YtocdkeidjocmkaaRank
import Derived.Test.YtocdkeidjocmkaaStep
namespace Go.Proofs.Ytocdkeidjocmkaa
set_option linter.unusedVariables false
set_option linter.unusedSimpArgs false
open Go.ChangeShapes Go.WideShapes Go.ChangeAt Go.RowKit

/-- the tour from two states; the first word that merges them, whether there is one, its length -/
def mgT (xss : List (List Int)) (s t : Nat) : Tour := tourOf xss (2 ^ s ||| 2 ^ t)
def mgW (xss : List (List Int)) (s t : Nat) : List Int := wordP smallB (mgT xss s t)
def mgOk (xss : List (List Int)) (s t : Nat) : Bool := (firstT smallB (mgT xss s t)).isSome
def mgL (xss : List (List Int)) (s t : Nat) : Int := if mgOk xss s t = true then ((mgW xss s t).length : Int) else -1
def ptRow (xss : List (List Int)) (s k : Nat) : List Int := (List.range k).map fun t => mgL xss s t
def ptTo (xss : List (List Int)) (n k : Nat) : List (List Int) := (List.range k).map fun s => ptRow xss s n
theorem ptRow_succ (xss : List (List Int)) (s k : Nat) : ptRow xss s k ++ [mgL xss s k] = ptRow xss s (k + 1) := range_map_snoc (fun t => mgL xss s t) k
theorem ptTo_succ (xss : List (List Int)) (n k : Nat) : ptTo xss n k ++ [ptRow xss k n] = ptTo xss n (k + 1) := range_map_snoc (fun s => ptRow xss s n) k
theorem ptRow_len (xss : List (List Int)) (s k : Nat) : (ptRow xss s k).length = k := by simp [ptRow]
theorem ptTo_len (xss : List (List Int)) (n k : Nat) : (ptTo xss n k).length = k := by simp [ptTo]

theorem pair_lt {n s t : Nat} (hs : s < n) (ht : t < n) : 2 ^ s ||| 2 ^ t < 2 ^ n := Nat.or_lt_two_pow (Nat.pow_lt_pow_right (by decide) hs) (Nat.pow_lt_pow_right (by decide) ht)
theorem pair_u64 {s t : Nat} (hs : s < 10) (ht : t < 10) : bits .or .u64 (IntKind.u64.wrap ((2 : Int) ^ s)) (IntKind.u64.wrap ((2 : Int) ^ t)) = ((2 ^ s ||| 2 ^ t : Nat) : Int) := by
  rw [wrap_pow_u64 (n := s) (by omega)]
  exact or_pow_u64 (Nat.lt_of_lt_of_le (Nat.pow_lt_pow_right (by decide) hs) (by decide)) ht
theorem pair_w64 {s t : Nat} (hs : s < 10) (ht : t < 10) : bits .or .i64 (wrap64 ((2 : Int) ^ s)) (wrap64 ((2 : Int) ^ t)) = ((2 ^ s ||| 2 ^ t : Nat) : Int) := by
  rw [wrap64_i64 ((2 : Int) ^ s), wrap_pow_i64 (n := s) (by omega)]
  exact or_pow_w64 (Nat.lt_of_lt_of_le (Nat.pow_lt_pow_right (by decide) hs) (by decide)) ht
theorem mg_tour {st : Int} {n : Nat} {xss : List (List Int)} (hg : Good st n xss) {s t : Nat} (hs : s < n) (ht : t < n) : GoodT n (mgT xss s t) := GoodT.outer hg.rows hg.len3 (pair_lt hs ht) 1024

/-- nil just where there is nothing -/
def NilIf (ok : Bool) (n : Nat) (v : Value) : Prop := (ok = false → v = .slice none 0 0) ∧ (ok = true → ∃ g c, v = .slice (some ⟨g, 0, none⟩) n c)
theorem nilIf_of {w : World} {lo n : Nat} {e : TypeId} {v : Value} {xs : List Value} {code : Int} {ok : Bool} (ho : w.ownsRow lo e 1 v n xs) (h1 : code = 0 → v ≠ .slice none 0 0) (h2 : v ≠ .slice none 0 0 → code = 0) (hc : code = if ok = true then 0 else 6) : NilIf ok n v := by
  rcases ho.2 with ⟨rfl, h0⟩ | ⟨g, cap, cur, rfl, _⟩
  · exact ⟨fun _ => rfl, fun hk => absurd rfl (h1 (by rw [hc, hk]; rfl))⟩
  · refine ⟨fun hk => ?_, fun _ => ⟨_, _, rfl⟩⟩
    have := h2 (by intro h; cases h)
    rw [hc, hk] at this
    cases this
/-- a word that the call made; nil where there is none -/
def MgPost (zs : List Int) (ok : Bool) (w : World) (e : Ending) (w' : World) : Prop :=
  ∃ v, ∃ c : Int, e = .returned (.tuple #[v, .int .i64 c]) ∧ w'.ownsRow w.heap.size 2 1 v zs.length (zs.map (Value.int .i64)) ∧ Below w.heap.size w w' ∧ NilIf ok zs.length v

set_option maxRecDepth 100000 in
set_option maxHeartbeats 4000000 in
theorem merging_any (st : Int) (v : Value) (xss : List (List Int)) (n s t : Nat) (w : World) (h1 : Rows2 w v xss) (hg : Good st n xss) (hs : s < n) (ht : t < n) :
    Calls Try.prog 94 #[.agg #[.int .i64 st, v], .int .i64 s, .int .i64 t] w (MgPost (mgW xss s t) (mgOk xss s t) w) := by
  have hn10 := hg.hi
  obtain ⟨ao, m, c, rfl, HM⟩ := h1.shape
  have bx : Below w.heap.size w (w.alloc (.cells #[.int .i64 st, .slice ao m c] 44)) := below_alloc (Below.refl _ _) _
  have hp := pair_u64 (s := s) (t := t) (by omega) (by omega)
  have HTR := Lib.hid (fun W (hW : Below w.heap.size w W) => tour_any st _ xss n (2 ^ s ||| 2 ^ t) W (h1.kept hW) hg (pair_lt hs ht))
  have hT := mg_tour hg hs ht
  change GoodT n (tourOf xss (2 ^ s ||| 2 ^ t)) at hT
  rw [show mgW xss s t = wordP smallB (tourOf xss (2 ^ s ||| 2 ^ t)) from rfl, show mgOk xss s t = (firstT smallB (tourOf xss (2 ^ s ||| 2 ^ t))).isSome from rfl]
  generalize tourOf xss (2 ^ s ||| 2 ^ t) = T at HTR hT ⊢
  have hcd := codeP_if smallB T
  have HFI := Lib.hid (fun W lo mb lv (hl : W.ownsRow lo 101 1 lv T.sets.length (flVals T.sets)) (hw : WordMap W lo mb T) => first_nn T n lo mb lv 108 #[] smallB W hT hn10 hl hw (fun _ _ => by kernel_rfl) (isSmall_ret T n hT hn10 W))
  generalize codeP smallB T = cd at hcd HFI
  generalize wordP smallB T = zs at HFI ⊢
  generalize (firstT smallB T).isSome = ok at hcd ⊢
  have HCD := Lib.hid hcd
  have hs10 : s < 10 := by omega
  have ht10 : t < 10 := by omega
  clear h1 hg hT hcd hs ht
  generalize 2 ^ s ||| 2 ^ t = ff at hp HTR
  have HST0 : Hid (Below w.heap.size w (w.alloc (.cells #[.int .i64 st, .slice ao m c] 44)).drew ∧ (w.alloc (.cells #[.int .i64 st, .slice ao m c] 44)).drew.cell? ⟨w.heap.size, 0, none⟩ = some (.int .i64 st) ∧ (w.alloc (.cells #[.int .i64 st, .slice ao m c] 44)).drew.cell? ⟨w.heap.size, 1, none⟩ = some (.slice ao m c)) :=
    held3_start bx (by go_simp) (by go_simp)
  clear bx
  go_enter Try.func94, Try.ntmps94
  go_wp2
  go_region_held3 (fun w' => Below w.heap.size w w' ∧ w'.cell? ⟨w.heap.size, 0, none⟩ = some (.int .i64 st) ∧ w'.cell? ⟨w.heap.size, 1, none⟩ = some (.slice ao m c)) (first | exact HST0.out | assumption | exact held3_next (by assumption) (by assumption))
      (first
        | (go_simp; go_at_call 116; refine (HTR.out _ (And.left (by assumption))).mono ?_; rintro e w5 ⟨lv, mb, rfl, hol, hwm, hb5⟩; obtain ⟨a5, m5, c5, rfl, HM5⟩ := own_shape hol)
        | (go_simp; go_at_call 117; refine (HFI.out _ _ _ _ hol hwm).mono ?_; rintro e w6 ⟨v6, rfl, ho6, hb6, hn1, hn2⟩; obtain ⟨a6, m6, c6, rfl, HM6⟩ := own_shape ho6))
  rename Below w.heap.size w w6 ∧ _ => hS
  obtain ⟨hw6, hcs⟩ := hS
  have hsz : w.heap.size ≤ w.heap.size + 1 := by omega
  have HNI : Hid (NilIf ok zs.length (.slice a6 m6 c6)) := nilIf_of ho6 hn1 hn2 HCD.out
  have HO6 := Lib.hid ho6
  have HB5 := Lib.hid hb5.size
  clear hcs hn1 hn2 ho6
  go_wp2
  go_ret2
  exact ⟨_, _, rfl, own_lo HO6.out (by first | omega | (simp; done) | (simp; omega)), hw6, HNI.out⟩

/-- a row of words, nil where there is none; the table of them -/
structure MRow (w : World) (lo : Nat) (v : Value) (rs : List Value) (zs : Nat → List Int) (ok : Nat → Bool) : Prop where
  outer : w.ownsRow lo 55 1 v rs.length rs
  row : ∀ t, t < rs.length → w.ownsRow lo 2 1 (rs.getD t undef) (zs t).length ((zs t).map (Value.int .i64)) ∧ NilIf (ok t) (zs t).length (rs.getD t undef)
structure MTab (w : World) (lo : Nat) (v : Value) (Rs : List Value) (n : Nat) (zs : Nat → Nat → List Int) (ok : Nat → Nat → Bool) : Prop where
  outer : w.ownsRow lo 22 1 v Rs.length Rs
  row : ∀ s, s < Rs.length → ∃ rs, rs.length = n ∧ MRow w lo (Rs.getD s undef) rs (zs s) (ok s)
section
variable {w w' : World} {lo : Nat} {v v' r : Value} {rs Rs : List Value} {n : Nat}
theorem MRow.below {zs : Nat → List Int} {ok : Nat → Bool} (h : MRow w lo v rs zs ok) (hb : Below w.heap.size w w') : MRow w' lo v rs zs ok :=
  ⟨own_below h.outer hb, fun t ht => ⟨own_below (h.row t ht).1 hb, (h.row t ht).2⟩⟩
theorem MRow.low {zs : Nat → List Int} {ok : Nat → Bool} {lo2 : Nat} (h : MRow w lo v rs zs ok) (hl : lo2 ≤ lo) : MRow w lo2 v rs zs ok :=
  ⟨own_lo h.outer hl, fun t ht => ⟨own_lo (h.row t ht).1 hl, (h.row t ht).2⟩⟩
theorem MTab.below {zs : Nat → Nat → List Int} {ok : Nat → Nat → Bool} (h : MTab w lo v Rs n zs ok) (hb : Below w.heap.size w w') : MTab w' lo v Rs n zs ok :=
  ⟨own_below h.outer hb, fun s hs => by obtain ⟨rs, e, hr⟩ := h.row s hs; exact ⟨rs, e, hr.below hb⟩⟩
theorem MTab.low {zs : Nat → Nat → List Int} {ok : Nat → Nat → Bool} {lo2 : Nat} (h : MTab w lo v Rs n zs ok) (hl : lo2 ≤ lo) : MTab w lo2 v Rs n zs ok :=
  ⟨own_lo h.outer hl, fun s hs => by obtain ⟨rs, e, hr⟩ := h.row s hs; exact ⟨rs, e, hr.low hl⟩⟩
theorem MRow.kept {zs : Nat → List Int} {ok : Nat → Bool} (h : MRow w lo v rs zs ok) {lo2 : Nat} {e2 : TypeId} {s2 : Nat} {v2 : Value} {n2 : Nat} {xs2 : List Value} (h2 : w.ownsRow lo2 e2 s2 v2 n2 xs2) (h1 : 55 ≠ e2) (h3 : 2 ≠ e2) (hg : w.grownBy w' v2.ownBlock) : MRow w' lo v rs zs ok :=
  ⟨own_grown h.outer h2 hg rfl h1, fun t ht => ⟨own_grown (h.row t ht).1 h2 hg rfl h3, (h.row t ht).2⟩⟩
theorem getD_snoc_old {α : Type} (l : List α) (x d : α) {i : Nat} (h : i < l.length) : (l ++ [x]).getD i d = l.getD i d := by simp [List.getD_eq_getElem?_getD, List.getElem?_append, h]
theorem getD_snoc_new {α : Type} (l : List α) (x d : α) : (l ++ [x]).getD l.length d = x := by simp [List.getD_eq_getElem?_getD]
theorem MRow.snoc {zs : Nat → List Int} {ok : Nat → Bool} (h : MRow w lo v rs zs ok) (hg : w.grownBy w' v.ownBlock) (ho : w'.ownsRow lo 55 1 v' (rs.length + 1) (rs ++ [r]))
    (hr : w.ownsRow lo 2 1 r (zs rs.length).length ((zs rs.length).map (Value.int .i64))) (hn : NilIf (ok rs.length) (zs rs.length).length r) : MRow w' lo v' (rs ++ [r]) zs ok := by
  refine ⟨by rw [List.length_append]; exact ho, fun t ht => ?_⟩
  rw [List.length_append, List.length_singleton] at ht
  by_cases hlt : t < rs.length
  · rw [getD_snoc_old _ _ _ hlt]
    exact ⟨own_grown (h.row t hlt).1 h.outer hg rfl (by decide), (h.row t hlt).2⟩
  · obtain rfl : t = rs.length := by omega
    rw [getD_snoc_new]
    exact ⟨own_grown hr h.outer hg rfl (by decide), hn⟩
theorem MTab.snoc {zs : Nat → Nat → List Int} {ok : Nat → Nat → Bool} (h : MTab w lo v Rs n zs ok) (hg : w.grownBy w' v.ownBlock) (ho : w'.ownsRow lo 22 1 v' (Rs.length + 1) (Rs ++ [r]))
    (hl : rs.length = n) (hr : MRow w lo r rs (zs Rs.length) (ok Rs.length)) : MTab w' lo v' (Rs ++ [r]) n zs ok := by
  refine ⟨by rw [List.length_append]; exact ho, fun t ht => ?_⟩
  rw [List.length_append, List.length_singleton] at ht
  by_cases hlt : t < Rs.length
  · rw [getD_snoc_old _ _ _ hlt]
    obtain ⟨rs, e, hq⟩ := h.row t hlt
    exact ⟨rs, e, hq.kept h.outer (by decide) (by decide) hg⟩
  · obtain rfl : t = Rs.length := by omega
    rw [getD_snoc_new]
    exact ⟨rs, hl, hr.kept h.outer (by decide) (by decide) hg⟩
end
theorem elem_rows : Elem Try.prog 26 22 (.slice none 0 0) 24 := ⟨Try.underlying26, by kernel_rfl, rfl⟩

/-- a table of words that the call made -/
def NewTab (n : Nat) (zs : Nat → Nat → List Int) (ok : Nat → Nat → Bool) (w : World) (e : Ending) (w' : World) : Prop :=
  ∃ v Rs, e = .returned v ∧ Rs.length = n ∧ MTab w' w.heap.size v Rs n zs ok ∧ Below w.heap.size w w'

set_option maxRecDepth 100000 in
set_option maxHeartbeats 4000000 in
theorem merges_any (st : Int) (v : Value) (xss : List (List Int)) (n : Nat) (w : World) (h1 : Rows2 w v xss) (hg : Good st n xss) :
    Calls Try.prog 52 #[.agg #[.int .i64 st, v]] w (NewTab n (mgW xss) (mgOk xss) w) := by
  have hn10 := hg.hi
  obtain ⟨ao, m, c, rfl, HM⟩ := h1.shape
  obtain rfl := hg.st
  have HMG := Lib.hid (fun s t (hs : s < n) (ht : t < n) W (hW : Below w.heap.size w W) => merging_any n _ xss n s t W (h1.kept hW) hg hs ht)
  generalize mgW xss = ZS at HMG ⊢
  generalize mgOk xss = OK at HMG ⊢
  obtain ⟨W1, hW1⟩ : ∃ W1, W1 = w.alloc (.cells #[.int .i64 n, .slice ao m c] 44) := ⟨_, rfl⟩
  have bx : Below w.heap.size w W1 := by rw [hW1]; exact below_alloc (Below.refl _ _) _
  have p0 : W1.cell? ⟨w.heap.size, 0, none⟩ = some (.int .i64 n) := by rw [hW1]; go_simp
  have p1 : W1.cell? ⟨w.heap.size, 1, none⟩ = some (.slice ao m c) := by rw [hW1]; go_simp
  have HE := Lib.hid (own_empty W1 (w.heap.size + 1) (by rw [hW1]; simp) 22)
  have hbe : Below (w.heap.size + 1) W1 (W1.alloc (.cells #[] 22)) := (Below.refl _ _).alloc (by rw [hW1]; simp) _
  subst hW1
  clear h1 hg
  go_enter Try.func52, Try.ntmps52
  go_wp2
  go_loopw [3, 12] (fun u i wr => ∃ s : Nat, s ≤ n ∧ i = .int .i64 s ∧ Hid (∃ Rs : List Value, Rs.length = s ∧ MTab wr (w.heap.size + 1) u Rs n ZS OK) ∧ Below (w.heap.size + 1) (w.alloc (.cells #[.int .i64 n, .slice ao m c] 44)) wr) (fun _ i _ => n - (intOf i).toNat)
  case atStart => exact ⟨0, Nat.zero_le _, rfl, ⟨[], rfl, by simpa using HE.out, fun s hs => absurd hs (by simp)⟩, hbe⟩
  case round =>
    obtain ⟨s, hs, rfl, HT, hb⟩ := hrel
    have q0 := Below.cellOf hb p0 (by omega)
    have q1 := Below.cellOf hb p1 (by omega)
    obtain ⟨Rs, hRs, hT⟩ := HT.out
    obtain ⟨au, mu, cu, rfl, HMu⟩ := own_shape hT.outer
    have HT2 := Lib.hid hT
    clear HT hT
    by_cases hlt : s < n
    · obtain ⟨wo, rfl⟩ : ∃ wo : World, wo = wr := ⟨_, rfl⟩
      have HE2 := Lib.hid (own_empty wo wo.heap.size (Nat.le_refl _) 55)
      have hbe2 : Below wo.heap.size wo (wo.alloc (.cells #[] 55)) := below_alloc (Below.refl _ _) _
      have hlow : w.heap.size + 1 ≤ wo.heap.size := by have := hb.size; simp at this; omega
      have hbx : Below w.heap.size w wo := bx.trans (hb.mono (by omega))
      have hz0 := block_lt_of_cell q0
      go_wp2
      go_loopw [5, 18] (fun u i wr => ∃ t : Nat, t ≤ n ∧ i = .int .i64 t ∧ Hid (∃ rs : List Value, rs.length = t ∧ MRow wr wo.heap.size u rs (ZS s) (OK s)) ∧ Below wo.heap.size wo wr) (fun _ i _ => n - (intOf i).toNat)
      case atStart => exact ⟨0, Nat.zero_le _, rfl, ⟨[], rfl, by simpa using HE2.out, fun s hs => absurd hs (by simp)⟩, hbe2⟩
      case round =>
        obtain ⟨t, ht, rfl, HR, hb2⟩ := hrel
        have r0 := below_cell hb2 q0
        have r1 := below_cell hb2 q1
        obtain ⟨rs, hrs, hR⟩ := HR.out
        obtain ⟨ar, mr, cr, rfl, HMr⟩ := own_shape hR.outer
        have HR2 := Lib.hid hR
        clear HR hR
        by_cases hlt2 : t < n
        · have HC := Lib.hid (HMG.out s t hlt hlt2 wr (below_trans hbx hb2))
          go_wp2_with fail
          refine HC.out.mono ?_
          rintro e w4 ⟨v4, c4, rfl, ho4, hb4, hn4⟩
          obtain ⟨a4, m4, c5, rfl, HM4⟩ := own_shape ho4
          have HO4 := Lib.hid ho4
          have HN4 := Lib.hid hn4
          have HR4 := Lib.hid (HR2.out.below hb4)
          have hbw := below_trans hb2 hb4
          clear ho4 hn4 HC
          go_wp2_with (at_builtin; refine wpList_push elem_ints rfl (.tmp 28) (.tmp 30) rfl wo.heap.size rfl HR4.out.outer _ rfl rfl (by unfold maxLen; omega) (by omega) hbw.size ?_; intro v6 w6 ho6 hg6 hs6)
          have HR6 := Lib.hid (HR4.out.snoc hg6 ho6 (by rw [hrs]; exact own_lo HO4.out hb2.size) (by rw [hrs]; exact HN4.out))
          have hb6 : Below wo.heap.size wo w6 := Below.grown hbw hg6 hbw.size (fun g hg => (own_block HR4.out.outer hg).1)
          clear ho6 hg6 hs6
          go_wp2
          go_roundw
          case rel => exact ⟨t + 1, by omega, by go_num, ⟨_, by rw [List.length_append, hrs]; rfl, HR6.out⟩, hb6⟩
          case measure => simp [intOf]; omega
        · obtain rfl : t = n := by omega
          have hT3 := HT2.out.below hb2
          have HT3 := Lib.hid hT3
          have hbw := hb.trans (hb2.mono hlow)
          have hlw : w.heap.size + 1 ≤ wr.heap.size := Nat.le_trans hlow hb2.size
          clear hT3
          go_wp2_with (at_builtin; refine wpList_push elem_rows rfl (.tmp 33) (.tmp 35) rfl (w.heap.size + 1) rfl HT3.out.outer _ rfl rfl (by unfold maxLen; omega) (by omega) hlw ?_; intro v6 w6 ho6 hg6 hs6)
          have HT6 := Lib.hid (HT3.out.snoc hg6 ho6 hrs (by rw [hRs]; exact HR2.out.low hlow))
          have hb6 := Below.grown hbw hg6 hlw (fun g hg => (own_block HT3.out.outer hg).1)
          clear ho6 hg6 hs6
          go_wp2
          go_roundw
          case rel => exact ⟨s + 1, by omega, by go_num, ⟨_, by rw [List.length_append, hRs]; rfl, HT6.out⟩, hb6⟩
          case measure => simp [intOf]; omega
    · obtain rfl : s = n := by omega
      have hbw : Below w.heap.size w wr := bx.trans (hb.mono (by omega))
      go_wp2
      go_ret
      exact ⟨_, Rs, rfl, hRs, HT2.out.low (by omega), hbw⟩

theorem snocInt (out : List Int) (y : Int) : out.map (Value.int .i64) ++ [.int .i64 y] = (out ++ [y]).map (Value.int .i64) := by simp


end Go.Proofs.Ytocdkeidjocmkaa
