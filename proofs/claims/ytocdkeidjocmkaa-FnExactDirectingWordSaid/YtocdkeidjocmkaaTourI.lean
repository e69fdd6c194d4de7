/- (Automaton).tour of the program: the list of the sets and the map of their first words. -/
import Derived.Test.YtocdkeidjocmkaaBits
import Derived.Test.YtocdkeidjocmkaaMap
import Derived.Test.YtocdkeidjocmkaaStep
namespace Go.Proofs.Ytocdkeidjocmkaa
set_option linter.unusedVariables false
set_option linter.unusedSimpArgs false
open Go.ChangeShapes Go.WideShapes Go.ChangeAt Go.RowKit

theorem elem_flock : Elem Try.prog 107 101 (.int .u64 0) 8 := ⟨Try.underlying107, by kernel_rfl, rfl⟩
theorem size1_flock : ∀ w, (sizeOf 101).run Try.prog w = .ok 1 w := fun _ => by kernel_rfl
theorem flock_law : Maps.Keyed Try.prog 101 := Maps.int_keyed Try.underlying101
theorem zero_ints (w : World) : (zeroValue 55).run Try.prog w = .ok (.slice none 0 0) w := by kernel_rfl
theorem key_flock {s : Nat} (h : s < 1024) : keyOf Try.prog 101 (.int .u64 (s : Int)) = some (.int .u64 (s : Int)) :=
  Maps.keyOf_int_mk Try.underlying101 (WalkArith.wf_u64 (by omega))

/-- the sets in a slice of flocks -/
def flVals (ss : List Nat) : List Value := ss.map fun (s : Nat) => Value.int .u64 (s : Int)
theorem flVals_len (ss : List Nat) : (flVals ss).length = ss.length := by simp [flVals]
theorem flVals_snoc (ss : List Nat) (s : Nat) : flVals ss ++ [.int .u64 (s : Int)] = flVals (ss ++ [s]) := by simp [flVals]

/-- the struct of a tour at block tb: its list holds ss, its map is mb -/
def ListAt (w : World) (lo tb mb : Nat) (ss : List Nat) : Prop :=
  ∃ lv, w.ownsRow lo 141 1 (.slice (some ⟨tb, 0, none⟩) 2 2) 2 [lv, .map (some mb)] ∧ w.ownsRow lo 101 1 lv ss.length (flVals ss)
/-- the map holds the words of a tour -/
structure WordsAt (w : World) (lo : Nat) (F : Lit → Option Value) (T : Tour) : Prop where
  met : ∀ s : Nat, (F (.int .u64 (s : Int))).isSome = decide (s ∈ T.sets)
  word : ∀ k, k < T.length → ∃ u, F (.int .u64 ((T.at k).1 : Int)) = some u ∧ w.ownsRow lo 2 1 u (T.at k).2.length ((T.at k).2.map (Value.int .i64)) ∧ u ≠ .slice none 0 0
def WordMap (w : World) (lo mb : Nat) (T : Tour) : Prop := ∃ F, MapAt Try.prog 101 w mb T.length F ∧ WordsAt w lo F T

section
variable {w w' : World} {lo tb mb : Nat} {ss : List Nat} {T : Tour}

theorem ListAt.below (h : ListAt w lo tb mb ss) (hb : Below w.heap.size w w') : ListAt w' lo tb mb ss := by
  obtain ⟨lv, h1, h2⟩ := h
  exact ⟨lv, own_below h1 hb, own_below h2 hb⟩
theorem ListAt.grown (h : ListAt w lo tb mb ss) {b n : Nat} {F : Lit → Option Value} {P : Program} {k : TypeId} (hm : MapAt P k w b n F) (hg : w.grownBy w' (some b)) : ListAt w' lo tb mb ss := by
  obtain ⟨lv, h1, h2⟩ := h
  refine ⟨lv, h1.kept hg ?_, h2.kept hg ?_⟩
  · exact .inr fun e => hm.ne_own h1 e.symm
  · exact .inr fun e => hm.ne_own h2 e.symm
theorem WordsAt.below {F : Lit → Option Value} (h : WordsAt w lo F T) (hb : Below w.heap.size w w') : WordsAt w' lo F T :=
  ⟨h.met, fun k hk => by obtain ⟨u, h1, h2, h3⟩ := h.word k hk; exact ⟨u, h1, own_below h2 hb, h3⟩⟩
theorem WordMap.below (h : WordMap w lo mb T) (hb : Below w.heap.size w w') : WordMap w' lo mb T := by
  obtain ⟨F, h1, h2⟩ := h
  exact ⟨F, h1.below hb, h2.below hb⟩
theorem WordsAt.kept {F : Lit → Option Value} (h : WordsAt w lo F T) {e : TypeId} {s n lo2 : Nat} {v : Value} {xs : List Value} (ho : w.ownsRow lo2 e s v n xs) (he : 2 ≠ e) (hg : w.grownBy w' v.ownBlock) : WordsAt w' lo F T :=
  ⟨h.met, fun k hk => by obtain ⟨u, h1, h2, h3⟩ := h.word k hk; exact ⟨u, h1, h2.kept hg (own_ne h2 ho he), h3⟩⟩
theorem WordMap.kept (h : WordMap w lo mb T) {e : TypeId} {s n lo2 : Nat} {v : Value} {xs : List Value} (ho : w.ownsRow lo2 e s v n xs) (he : 2 ≠ e) (hg : w.grownBy w' v.ownBlock) : WordMap w' lo mb T := by
  obtain ⟨F, h1, h2⟩ := h
  exact ⟨F, h1.kept hg (h1.ne_own ho), h2.kept ho he hg⟩
/-- a new set with its word -/
theorem WordsAt.put {F : Lit → Option Value} (h : WordsAt w lo F T) {n : Nat} (hm : MapAt Try.prog 101 w mb n F) (hg : w.grownBy w' (some mb)) {s : Nat} (hs : s ∉ T.sets) {u : Value} {zs : List Int} {lo2 : Nat} (hl : lo ≤ lo2)
    (ho : w.ownsRow lo2 2 1 u zs.length (zs.map (Value.int .i64))) (hnn : u ≠ .slice none 0 0) : WordsAt w' lo (putF F (.int .u64 (s : Int)) u) (T ++ [(s, zs)]) := by
  have hsets : Tour.sets (T ++ [(s, zs)]) = T.sets ++ [s] := by simp [Tour.sets]
  refine ⟨fun r => ?_, fun k hk => ?_⟩
  · rw [putF_int, hsets]
    by_cases hr : (r : Int) = (s : Int)
    · have : r = s := by omega
      subst this
      rw [if_pos rfl]
      simp
    · rw [if_neg hr, h.met]
      have : r ≠ s := fun e => hr (by rw [e])
      simp [this]
  · rw [List.length_append, List.length_singleton] at hk
    by_cases hkn : k < T.length
    · have e : Tour.at (T ++ [(s, zs)]) k = T.at k := by simp [Tour.at, List.getD_eq_getElem?_getD, List.getElem?_append_left hkn]
      obtain ⟨u', h1, h2, h3⟩ := h.word k hkn
      rw [e]
      refine ⟨u', ?_, h2.kept hg (.inr fun e => hm.ne_own h2 e.symm), h3⟩
      rw [putF_int, if_neg, h1]
      intro e2
      have : (T.at k).1 = s := by omega
      exact hs (this ▸ List.mem_map.2 ⟨_, Tour.at_mem hkn, rfl⟩)
    · have e0 : k = T.length := by omega
      subst e0
      have e : Tour.at (T ++ [(s, zs)]) T.length = (s, zs) := by simp [Tour.at, List.getD_eq_getElem?_getD]
      rw [e]
      exact ⟨u, by rw [putF_int, if_pos rfl], own_lo (ho.kept hg (.inr fun e => hm.ne_own ho e.symm)) hl, hnn⟩

theorem WordsAt.none (w : World) (lo : Nat) : WordsAt w lo (fun _ => Option.none) [] := ⟨fun s => by simp [Tour.sets], fun k hk => by simp at hk⟩
theorem flVals_get {ss : List Nat} {i : Nat} (h : i < ss.length) : (flVals ss)[i]? = some (.int .u64 (ss.getD i 0 : Int)) := by
  simp [flVals, List.getD_eq_getElem?_getD, h]
theorem Tour.sets_at {T : Tour} {i : Nat} (h : i < T.length) : T.sets.getD i 0 = (T.at i).1 := by
  simp [Tour.sets, Tour.at, List.getD_eq_getElem?_getD, h]
theorem Tour.mem_sets {T : Tour} {i : Nat} (h : i < T.length) : (T.at i).1 ∈ T.sets := List.mem_map_of_mem (Tour.at_mem h)
theorem Tour.sets_len (T : Tour) : T.sets.length = T.length := by simp [Tour.sets]
theorem Tour.sets_lt {n : Nat} {T : Tour} (h : GoodT n T) {s : Nat} (hs : s ∈ T.sets) : s < 2 ^ n := by
  obtain ⟨p, hp, rfl⟩ := List.mem_map.1 hs
  exact h.lt p hp

/-- what the loops keep -/
structure TInv (W w : World) (lo tb mb : Nat) (T : Tour) : Prop where
  list : ListAt w lo tb mb T.sets
  words : WordMap w lo mb T
  below : Below lo W w

theorem WordMap.set_below (h : WordMap w lo mb T) {b : Nat} (hb : b < lo) (hm : mb ≠ b) (o : Nat) (u : Value) : WordMap (w.setCell ⟨b, o, none⟩ u) lo mb T := by
  obtain ⟨F, h1, h2⟩ := h
  exact ⟨F, h1.setCell hm u, h2.met, fun k hk => by obtain ⟨u', h3, h4, h5⟩ := h2.word k hk; exact ⟨u', h3, ownsRow_setCell_below h4 hb u, h5⟩⟩
theorem WordMap.low {lo2 : Nat} (h : WordMap w lo mb T) (hl : lo2 ≤ lo) : WordMap w lo2 mb T := by
  obtain ⟨F, h1, h2⟩ := h
  exact ⟨F, h1, h2.met, fun k hk => by obtain ⟨u', h3, h4, h5⟩ := h2.word k hk; exact ⟨u', h3, own_lo h4 hl, h5⟩⟩
end

theorem TInv.push {W w w6 : World} {lo tb mb n : Nat} {lv v6 : Value} {ss : List Nat} {s : Nat} {T : Tour} (hs : w.ownsRow lo 141 1 (.slice (some ⟨tb, 0, none⟩) 2 2) 2 [lv, .map (some mb)]) (hl : w.ownsRow lo 101 1 lv n (flVals ss))
    (hW : WordMap w lo mb T) (hB : Below lo W w) (hlo : lo ≤ w.heap.size) (hT : T.sets = ss ++ [s]) (hg : w.grownBy w6 lv.ownBlock) (ho : w6.ownsRow lo 101 1 v6 (n + 1) (flVals ss ++ [.int .u64 (s : Int)])) :
    TInv W (w6.setCell ⟨tb, 0, none⟩ v6) lo tb mb T := by
  have hs6 := own_grown hs hl hg rfl (by decide)
  obtain ⟨h1, h2⟩ := hs6.stored 0 v6
  have hl6 := own_grown ho hs6 h2 rfl (by decide)
  have hW6 := (hW.kept hl (by decide) hg).kept (v := .slice (some ⟨tb, 0, none⟩) 2 2) hs6 (by decide) h2
  have hB6 := Below.grown (Below.grown hB hg hlo fun g hg => (own_block hl hg).1) h2 (Nat.le_trans hlo hg.size) fun g hg => (own_block hs6 hg).1
  refine ⟨⟨v6, by simpa using h1, ?_⟩, hW6, hB6⟩
  have e : n + 1 = T.sets.length := by have := ho.1; rw [List.length_append, flVals_len] at this; rw [hT, List.length_append]; simp at this ⊢; omega
  rw [← e, hT, ← flVals_snoc]
  exact hl6

/-- a clone, told of all that is older than w0 -/
def CloneFrom (w0 W : World) (zs : List Int) (e : Ending) (w' : World) : Prop :=
  ∃ v, e = .returned v ∧ w'.ownsRow w0.heap.size 2 1 v zs.length (zs.map (Value.int .i64)) ∧ Below w0.heap.size w0 w' ∧ Below W.heap.size W w'
theorem clone_from {w0 W : World} {v : Value} {zs : List Int} (h : Ints w0 v zs) (hl : zs.length ≤ 1048576) (hb : Below w0.heap.size w0 W) : Calls Try.prog 64 #[v] W (CloneFrom w0 W zs) :=
  (cloneInts_any v zs W (h.kept hb) hl).mono fun _ _ ⟨v, he, ho, hb2⟩ => ⟨v, he, own_lo ho hb.size, below_trans hb hb2, hb2⟩

/-- a tour that the call made -/
def NewTour (T : Tour) (w : World) (e : Ending) (w' : World) : Prop :=
  ∃ lv mb, e = .returned (.agg #[lv, .map (some mb)]) ∧ w'.ownsRow w.heap.size 101 1 lv T.sets.length (flVals T.sets) ∧ WordMap w' w.heap.size mb T ∧ Below w.heap.size w w'

set_option maxRecDepth 100000 in
set_option maxHeartbeats 4000000 in
theorem tour_any (st : Int) (v : Value) (xss : List (List Int)) (n f : Nat) (w : World) (h1 : Rows2 w v xss) (hg : Good st n xss) (hf : f < 2 ^ n) :
    Calls Try.prog 116 #[.agg #[.int .i64 st, v], .int .u64 f] w (NewTour (tourOf xss f) w) := by
  obtain ⟨ao, b, o, c, H⟩ := h1.open
  have hv := H.val
  subst hv
  have hm := H.len
  have hn10 := hg.hi
  have hl1 := hg.len1
  have hl3 := hg.len3
  have hf2 : f < 1024 := Nat.lt_of_lt_of_le hf (Nat.pow_le_pow_right (by decide) hn10)
  have HLET := Lib.hid (fun W => lettersAuto_any st ao xss.length c W hm)
  have HSTEP := Lib.hid (fun g l W (hW : Below w.heap.size w W) (hl : l < xss.length) (hg2 : g < 2 ^ n) => autoStep_any st _ xss n g l W (h1.kept hW) hg.rows hn10 hl hg2)
  have HG := Lib.hid hg
  have HGT := Lib.hid (fun i => GoodT.outer hg.rows hl3 hf i)
  have HF := Lib.hid hf
  have hmm := @run_makeMap Try.prog
  have HKF := Lib.hid (key_flock hf2)
  obtain ⟨W2, hW2⟩ : ∃ W2, W2 = (w.alloc (.cells #[.int .i64 st, .slice ao xss.length c] 44)).alloc (.cells #[.slice none 0 0, .map none] 141) := ⟨_, rfl⟩
  have hm0 := MapAt.alloc (MapAt.made Try.prog 101 (W2.alloc (.cells #[.int .u64 f] 101))) (.cells #[] 2)
  have hl0 := ((World.ownsRow_lit (base := w.heap.size + 1 + 1) (size := 1) (e := 101) W2 #[.int .u64 (f : Int)] 1 (by rw [hW2]; simp) (by unfold maxLen; omega) (by simp)).alloc (.map #[] 0)).alloc (.cells #[] 2)
  have hw0 := own_empty ((W2.alloc (.cells #[.int .u64 f] 101)).alloc (.map #[] 0)) (w.heap.size + 1 + 1) (by rw [hW2]; simp; try omega) 2
  have e2 : W2.heap.size = w.heap.size + 1 + 1 := by rw [hW2]; simp
  rw [show (W2.alloc (.cells #[.int .u64 f] 101)).heap.size = w.heap.size + 1 + 1 + 1 by simp [e2]] at hm0
  rw [show ((W2.alloc (.cells #[.int .u64 f] 101)).alloc (.map #[] 0)).heap.size = w.heap.size + 1 + 1 + 1 + 1 by simp [e2]] at hw0
  rw [e2] at hl0
  subst hW2
  have HM0 := Lib.hid hm0
  have HL0 := Lib.hid hl0
  have HW0 := Lib.hid hw0
  clear hf hg h1 H hm0 hl0 hw0 e2
  go_enter Try.func116, Try.ntmps116
  go_wp2_with fail
  refine upon_put HM0.out flock_law Try.underlying139 (by unfold maxLen; omega) HKF.out ?_
  intro w1 hm1 hg1
  go_wp2
  have hlt1 : w.heap.size + 1 + 1 + 1 + 1 + 1 ≤ w1.heap.size := by have := hg1.size; simpa using this
  have hws : WordsAt w1 (w.heap.size + 1 + 1) (putF (fun _ => none) (.int .u64 (f : Int)) (.slice (some ⟨w.heap.size + 1 + 1 + 1 + 1, 0, none⟩) 0 0)) [(f, [])] :=
    (WordsAt.none _ _).put HM0.out hg1 (by simp [Tour.sets]) (zs := []) (lo2 := w.heap.size + 1 + 1) (Nat.le_refl _) HW0.out (by intro h; cases h)
  have hls := HL0.out.kept hg1 (.inr fun e => by simp [Value.ownBlock] at e)
  have hst := World.ownsRow_lit (base := w.heap.size + 1 + 1) (size := 1) (e := 141) w1 #[.slice (some ⟨w.heap.size + 1 + 1, 0, none⟩) 1 1, .map (some (w.heap.size + 1 + 1 + 1))] 2 (by omega) (by unfold maxLen; omega) (by simp)
  have hb1 : Below (w.heap.size + 1 + 1) ((w.alloc (.cells #[.int .i64 st, .slice ao xss.length c] 44)).alloc (.cells #[.slice none 0 0, .map none] 141)) w1 :=
    Below.grown ((((Below.refl _ _).alloc (by simp) _).alloc (by simp) _).alloc (by simp) _) hg1 (by simp; try omega) (fun g hg => by cases hg; omega)
  have hinv : TInv ((w.alloc (.cells #[.int .i64 st, .slice ao xss.length c] 44)).alloc (.cells #[.slice none 0 0, .map none] 141)) (w1.alloc (.cells #[.slice (some ⟨w.heap.size + 1 + 1, 0, none⟩) 1 1, .map (some (w.heap.size + 1 + 1 + 1))] 141)) (w.heap.size + 1 + 1) w1.heap.size (w.heap.size + 1 + 1 + 1) [(f, [])] :=
    ⟨⟨_, hst, hls.alloc _⟩, ⟨_, hm1.alloc _, hws.below (below_alloc (Below.refl _ _) _)⟩, hb1.alloc (by omega) _⟩
  have HINV := Lib.hid hinv
  clear hws hls hst hb1 hinv hm1 hg1 HM0 HL0 HW0
  obtain ⟨tb, htb⟩ : ∃ tb, tb = w1.heap.size := ⟨_, rfl⟩
  obtain ⟨mb, hmb⟩ : ∃ mb, mb = w.heap.size + 1 + 1 + 1 := ⟨_, rfl⟩
  obtain ⟨W2, hW2⟩ : ∃ W2, W2 = (w.alloc (.cells #[.int .i64 st, .slice ao xss.length c] 44)).alloc (.cells #[.slice none 0 0, .map none] 141) := ⟨_, rfl⟩
  have bW2 : Below w.heap.size w W2 := by rw [hW2]; exact below_alloc (below_alloc (Below.refl _ _) _) _
  have sW2 : W2.heap.size = w.heap.size + 1 + 1 := by rw [hW2]; simp
  have x0 : W2.cell? ⟨w.heap.size, 0, none⟩ = some (.int .i64 st) := by rw [hW2]; go_simp
  have x1 : W2.cell? ⟨w.heap.size, 1, none⟩ = some (.slice ao xss.length c) := by rw [hW2]; go_simp
  have x2 : W2.cell? ⟨w.heap.size + 1, 0, none⟩ = some (.slice none 0 0) := by rw [hW2]; go_simp
  have x3 : W2.cell? ⟨w.heap.size + 1, 1, none⟩ = some (.map none) := by rw [hW2]; go_simp
  have y2 : W2.frozen? ⟨w.heap.size + 1, 0, none⟩ = false := by rw [hW2]; go_simp
  have y3 : W2.frozen? ⟨w.heap.size + 1, 1, none⟩ = false := by rw [hW2]; go_simp
  rw [← hW2] at HINV
  rw [← htb, ← hmb] at HINV
  rw [← htb, ← hmb]
  rw [← sW2] at HINV
  have SW2 := Lib.hid sW2
  have BW2 := Lib.hid bW2
  have htbm : Hid (tb ≠ mb) := by unfold Hid; omega
  have HMB : Hid (W2.heap.size ≤ mb) := by unfold Hid; omega
  clear hW2 htb hmb hlt1 sW2 bW2
  go_loopw [6] (fun i wr => ∃ k : Nat, k ≤ (outerT xss f k).length ∧ i = .int .i64 k ∧ Hid (TInv W2 wr W2.heap.size tb mb (outerT xss f k))) (fun i _ => 1024 - (intOf i).toNat)
  case atStart =>
    refine ⟨0, Nat.zero_le _, rfl, ?_⟩
    have h := HINV.out
    rw [SW2.out] at h ⊢
    exact h
  case round =>
    obtain ⟨k, hk, rfl, HI⟩ := hrel
    have hgt := HGT.out k
    have hlen := hgt.len10 hn10
    obtain ⟨T, hT⟩ : ∃ T, T = outerT xss f k := ⟨_, rfl⟩
    rw [← hT] at hk HI hgt hlen
    obtain ⟨⟨lv, hs, hl⟩, hwm, hbw⟩ := HI.out
    obtain ⟨lg, lc, rfl, hlc⟩ := own_some hl (by rw [Tour.sets_len, hT]; exact outerT_pos _ _ _)
    rw [Tour.sets_len] at hs hl
    have t0 : wr.cell? ⟨tb, 0, none⟩ = some (.slice (some ⟨lg, 0, none⟩) T.length lc) := by have := hs.cellAt 0 (by omega); simpa using this
    have t1 : wr.cell? ⟨tb, 1, none⟩ = some (.map (some mb)) := by have := hs.cellAt 1 (by omega); simpa using this
    have q0 : wr.cell? ⟨w.heap.size, 0, none⟩ = some (.int .i64 st) := below_cell hbw x0
    have q1 : wr.cell? ⟨w.heap.size, 1, none⟩ = some (.slice ao xss.length c) := below_cell hbw x1
    have z0 := block_lt_of_cell q0
    by_cases hlt : k < T.length
    · have i1 := idx_of Try.underlying107 size1_flock (ao := some ⟨lg, 0, none⟩) (b := lg) (o := 0) (n := T.length) (c := lc) (fun _ => rfl) hlt .i64
      rw [Nat.zero_add] at i1
      have t2 : wr.cell? ⟨lg, k, none⟩ = some (.int .u64 ((T.at k).1 : Int)) := by
        rw [hl.cellAt k (by omega), flVals_get (by rw [Tour.sets_len]; exact hlt), Tour.sets_at hlt]
      have hfl := hgt.lt _ (Tour.at_mem hlt)
      obtain ⟨fk, hfk⟩ : ∃ fk, fk = (T.at k).1 := ⟨_, rfl⟩
      rw [← hfk] at t2 hfl
      have HFK := Lib.hid hfk
      have HT := Lib.hid hT
      have HGTT := Lib.hid hgt
      have HFL := Lib.hid hfl
      clear hfk hT hgt hfl
      go_wp2_with fail
      refine (HLET.out _).mono ?_
      rintro e w3 ⟨rfl, hb3⟩
      have HI3 : Hid (TInv W2 w3 W2.heap.size tb mb T) := ⟨HI.out.list.below hb3, HI.out.words.below hb3, hbw.trans (hb3.mono hbw.size)⟩
      clear hs hl hwm hbw t0 t1 t2 q0 q1 z0 i1 hb3
      go_wp2
      go_loopw [33] (fun i wr => ∃ x : Nat, x ≤ xss.length ∧ i = .int .i64 x ∧ Hid (TInv W2 wr W2.heap.size tb mb (innerT xss k T x))) (fun i _ => xss.length - (intOf i).toNat)
      case atStart => exact ⟨0, Nat.zero_le _, rfl, HI3.out⟩
      case round =>
        obtain ⟨x, hx, rfl, HX⟩ := hrel
        have hgx := GoodT.inner HG.out.rows hl3 HGTT.out hlt x hx
        have hlx := hgx.len10 hn10
        have hTx := innerT_len xss k T x
        have hatx := innerT_at xss k T x hlt
        obtain ⟨U, hU⟩ : ∃ U, U = innerT xss k T x := ⟨_, rfl⟩
        have HST := Lib.hid (innerT_succ xss k T x)
        rw [← hU] at HX hgx hlx hTx hatx HST
        have hUk : k < U.length := by omega
        obtain ⟨⟨lv, hs, hl⟩, hwm, hbw⟩ := HX.out
        obtain ⟨lg2, lc2, rfl, hlc2⟩ := own_some hl (by rw [Tour.sets_len]; omega)
        have t1 : wr.cell? ⟨tb, 1, none⟩ = some (.map (some mb)) := by have := hs.cellAt 1 (by omega); simpa using this
        have q0 : wr.cell? ⟨w.heap.size, 0, none⟩ = some (.int .i64 st) := below_cell hbw x0
        have q1 : wr.cell? ⟨w.heap.size, 1, none⟩ = some (.slice ao xss.length c) := below_cell hbw x1
        have HUU := Lib.hid hU
        clear hU hs hl hwm
        by_cases hltx : x < xss.length
        · have HSX := Lib.hid (HSTEP.out fk x wr (BW2.out.trans (hbw.mono (by rw [SW2.out]; omega))) hltx HFL.out)
          have hmt := moved_lt (n := n) (HG.out.rows.row hltx).2 fk
          obtain ⟨to, hto⟩ : ∃ to, to = moved (xss.getD x []) fk := ⟨_, rfl⟩
          rw [← hto] at HSX hmt
          have hto2 : to < 1024 := Nat.lt_of_lt_of_le hmt (Nat.pow_le_pow_right (by decide) hn10)
          have HTO := Lib.hid hto
          have HAT := Lib.hid hatx
          have HMT := Lib.hid hmt
          clear hto hatx hmt
          go_wp2_with fail
          refine HSX.out.mono ?_
          rintro e w3 ⟨rfl, hb3⟩
          have HX3 : Hid (TInv W2 w3 W2.heap.size tb mb U) := ⟨HX.out.list.below hb3, HX.out.words.below hb3, hbw.trans (hb3.mono hbw.size)⟩
          replace t1 := below_cell hb3 t1
          obtain ⟨F, hmp, hwd⟩ := HX3.out.words
          have hmet := hwd.met to
          have hlook := hmp.lookOk flock_law Try.underlying139 (zero_ints w3) (key_flock hto2)
          rw [hmet] at hlook
          have hstep : stepT xss k U x = if to ∈ U.sets then U else U ++ [(to, (T.at k).2 ++ [(x : Int)])] := by unfold stepT; rw [HAT.out, ← HFK.out, ← HTO.out]
          by_cases hin : to ∈ U.sets
          · rw [if_pos hin] at hstep
            rw [decide_eq_true hin] at hlook
            obtain ⟨u, hu⟩ : ∃ u, u = (F (.int .u64 (to : Int))).getD (.slice none 0 0) := ⟨_, rfl⟩
            rw [← hu] at hlook
            rw [hstep] at HST
            clear hu hmet hin hstep hwd hmp
            go_wp2
            go_roundw
            case rel => exact ⟨x + 1, by omega, by go_num, by rw [HST.out]; exact HX3.out⟩
            case measure => simp [intOf]; omega
          · rw [if_neg hin] at hstep
            rw [decide_eq_false hin] at hlook
            have hnone : F (.int .u64 (to : Int)) = none := by
              have := hmet
              rw [decide_eq_false hin] at this
              simpa using this
            rw [hnone] at hlook
            obtain ⟨uf, huf, hof, _⟩ := hwd.word k hUk
            have hwl := hgx.word _ (Tour.at_mem hUk)
            rw [HAT.out] at huf hof hwl
            rw [← HFK.out] at huf
            have hfk1 : fk < 1024 := Nat.lt_of_lt_of_le HFL.out (Nat.pow_le_pow_right (by decide) hn10)
            have hfin : fk ∈ U.sets := by
              have := Tour.mem_sets hUk
              rw [HAT.out, ← HFK.out] at this
              exact this
            have hne : (fk : Int) ≠ (to : Int) := fun e => hin (by have : fk = to := by omega
                                                                   rw [← this]; exact hfin)
            obtain ⟨wk, hwk⟩ : ∃ wk, wk = (T.at k).2 := ⟨_, rfl⟩
            rw [← hwk] at hof hwl hstep
            obtain ⟨au, mu, cu, rfl, HMu⟩ := own_shape hof
            have hlf := fun X (hX : Below w3.heap.size w3 X) => (hmp.below hX).look flock_law Try.underlying139 (zero_ints X) (key_flock hfk1)
            rw [huf] at hlf
            have SK : ∀ X, Below w3.heap.size w3 X → X.cell? ⟨tb, 1, none⟩ = some (.map (some mb)) ∧ (Instr.lookup 139 (.map (some mb)) (.int .u64 (fk : Int)) false).run Try.prog X = .ok (.slice au mu cu) X := fun X hX => ⟨below_cell hX t1, hlf X hX⟩
            have SKu : ∀ va wa wu, Below w3.heap.size w3 wa → MapAt Try.prog 101 wu mb (U.length + 1) (putF F (.int .u64 (to : Int)) va) → wa.grownBy wu (some mb) → wu.cell? ⟨tb, 1, none⟩ = some (.map (some mb)) ∧ (Instr.lookup 139 (.map (some mb)) (.int .u64 (fk : Int)) false).run Try.prog wu = .ok (.slice au mu cu) wu := fun va wa wu h1 h2 h3 => by
              refine ⟨?_, ?_⟩
              · have h4 := below_cell h1 t1
                exact (World.cell?_of_block (h3.block tb (block_lt_of_cell h4) fun e => htbm.out (by injection e))).trans h4
              · have h4 := h2.look flock_law Try.underlying139 (zero_ints wu) (key_flock hfk1)
                rw [putF_int, if_neg hne, huf] at h4
                exact h4
            have HCL := Lib.hid (fun W (hW : Below w3.heap.size w3 W) => clone_from (W := W) (ints_of_own hof) (by omega) hW)
            have HUP := Lib.hid (fun X (hX : Below w3.heap.size w3 X) => hmp.below hX)
            have HKT := Lib.hid (key_flock hto2)
            have hmax : U.length < maxLen := by unfold maxLen; omega
            have HIN := Lib.hid hin
            have HSTP := Lib.hid hstep
            have HWD := Lib.hid hwd
            have HMP := Lib.hid hmp
            have HSK := Lib.hid SK
            have HSKU := Lib.hid SKu
            have hlf0 := hlf w3 (Below.refl _ _)
            clear hmet hnone huf hof hwd hmp hlf SK SKu hin hstep hfin hne hwk
            go_wp2
            go_region_held3 (fun w' => w'.cell? ⟨tb, 1, none⟩ = some (.map (some mb)) ∧ (Instr.lookup 139 (.map (some mb)) (.int .u64 (fk : Int)) false).run Try.prog w' = .ok (.slice au mu cu) w')
              (first | exact HSK.out _ (Below.refl _ _).drew | exact HSK.out _ (((Below.refl _ _).alloc (Nat.le_refl _) _).drew) | exact HSKU.out _ _ _ hba hmu hgu | exact HSK.out _ hba | exact HSK.out _ hbc | exact HSK.out _ (hbc.alloc hbc.size _))
              (first
                | (go_simp; go_at_call 64; refine (HCL.out _ (by first | exact (Below.refl _ _).drew | exact (((Below.refl _ _).alloc (Nat.le_refl _) _).drew))).mono ?_; rintro e wc ⟨vc, rfl, hoc, hbc, hbc2⟩; obtain ⟨ac, mc, cc, rfl, HMc⟩ := own_shape hoc)
                | (refine step_app (wo := w3) elem_int rfl (.tmp 56) (.tmp 58) rfl (hbc.alloc hbc.size _) rfl (hoc.alloc _) wc.heap.size (.int .i64 (x : Int)) rfl (by go_simp) rfl (by unfold maxLen; omega) (by omega) ?_; intro va wa hoa hba; obtain ⟨aa, ma, ca, rfl, HMa⟩ := own_shape hoa)
                | (refine step_app (wo := w3) elem_int rfl (.tmp 56) (.tmp 58) rfl hbc rfl hoc w3.heap.size (.int .i64 (x : Int)) rfl (below_cell hbc2 (by go_simp)) rfl (by unfold maxLen; omega) (by omega) ?_; intro va wa hoa hba; obtain ⟨aa, ma, ca, rfl, HMa⟩ := own_shape hoa)
                | (refine upon_put (HUP.out _ hba) flock_law Try.underlying139 hmax HKT.out ?_; intro wu hmu hgu))
            all_goals
              have hoa2 : wa.ownsRow w3.heap.size 2 1 (.slice aa ma ca) (wk ++ [(x : Int)]).length ((wk ++ [(x : Int)]).map (Value.int .i64)) := by
                rw [List.map_append, List.length_append]; exact hoa
              have hwm2 : WordMap wu W2.heap.size mb (U ++ [(to, wk ++ [(x : Int)])]) := ⟨_, by rw [List.length_append]; exact hmu, (HWD.out.below hba).put (HMP.out.below hba) hgu HIN.out HX3.out.below.size hoa2 (by obtain ⟨g, cap, e, _⟩ := own_some hoa2 (by simp); rw [e]; intro h; cases h)⟩
              obtain ⟨lv, hs, hl⟩ := (HX3.out.list.below hba).grown (HMP.out.below hba) hgu
              have hB : Below W2.heap.size W2 wu := Below.grown (HX3.out.below.trans (hba.mono HX3.out.below.size)) hgu (Nat.le_trans HX3.out.below.size hba.size) (fun g hg => by cases hg; exact HMB.out)
              rw [Tour.sets_len] at hl
              obtain ⟨lg3, lc3, rfl, hlc3⟩ := own_some hl (by omega)
              have r0 : wu.cell? ⟨tb, 0, none⟩ = some (.slice (some ⟨lg3, 0, none⟩) (List.length U) lc3) := by have := hs.cellAt 0 (by omega); simpa using this
              have f0 : wu.frozen? ⟨tb, 0, none⟩ = false := hs.frozenAt 0
              have HWM2 := Lib.hid hwm2
              have HS2 := Lib.hid hs
              have HL2 := Lib.hid hl
              have HB2 := Lib.hid hB
              rename wu.cell? ⟨tb, 1, none⟩ = some (.map (some mb)) ∧ _ => hHld
              clear hoa2 hwm2 hs hl hB hHld hoa hba hmu hgu hbc hbc2 hoc hlf0 hlook t1
              go_wp2_with (at_builtin; refine wpList_push elem_flock rfl (.tmp 61) (.tmp 63) rfl W2.heap.size rfl HL2.out _ rfl rfl (by unfold maxLen; omega) (by omega) HB2.out.size ?_; intro v6 w6 ho6 hg6 hs6; obtain ⟨a6, m6, c6, rfl, HM6⟩ := own_shape ho6; have r1 := own_cell_kept hg6 HL2.out HS2.out 0 (by decide) (by decide) r0; have r2 := own_frozen_kept hg6 HL2.out HS2.out 0 (by decide) (by decide) r0 f0)
              have HT6 := Lib.hid (TInv.push (T := U ++ [(to, wk ++ [(x : Int)])]) HS2.out HL2.out HWM2.out HB2.out HB2.out.size (by simp [Tour.sets]) hg6 ho6)
              clear ho6 hg6 hs6
              go_wp2
              go_roundw
              case rel => exact ⟨x + 1, by omega, by go_num, by rw [HST.out, HSTP.out]; exact HT6.out⟩
              case measure => simp [intOf]; omega
        · obtain rfl : x = xss.length := by omega
          have hr := outerT_round (rows := xss) (f := f) (i := k) (by rw [← HT.out]; exact hlt)
          rw [← HT.out, ← HUU.out] at hr
          have HR := Lib.hid hr
          clear hr
          go_wp2
          go_roundw
          case rel => exact ⟨k + 1, by rw [HR.out]; omega, by go_num, by rw [HR.out]; exact HX.out⟩
          case measure => simp [intOf]; omega
    · have hstop := tourOf_stop (rows := xss) (f := f) (i := k) (by rw [← hT]; omega) (by omega)
      rw [← hT] at hstop
      have HSTOP := Lib.hid hstop
      have hi0 : w.heap.size + 1 < W2.heap.size := by rw [SW2.out]; omega
      have u2 := below_cell hbw x2
      have u3 := below_cell hbw x3
      have g2 := (hbw.frozen (p := ⟨w.heap.size + 1, 0, none⟩) hi0).trans y2
      have g3 := (hbw.frozen (p := ⟨w.heap.size + 1, 1, none⟩) hi0).trans y3
      have hbw2 := BW2.out.trans (hbw.mono (by rw [SW2.out]; omega))
      have hlo2 : w.heap.size ≤ W2.heap.size := by omega
      have HL3 := Lib.hid hl
      have HS3 := Lib.hid hs
      have HW3 := Lib.hid hwm
      clear hstop hT hgt hl hs hwm x0 x1 x2 x3 y2 y3
      go_wp2
      rw [← HSTOP.out]
      refine bodyPost_ret (v := .agg #[.slice (some ⟨lg, 0, none⟩) (List.length T) lc, .map (some mb)]) (by simp [results, Try.results116, go_sem, u2, u3]) rfl ⟨_, mb, rfl, ?_, ?_, ?_⟩
      · rw [Tour.sets_len]
        exact own_lo (ownsRow_setCell_below (ownsRow_setCell_below HL3.out hi0 _) hi0 _) hlo2
      · exact ((HW3.out.set_below hi0 (by have := HMB.out; omega) _ _).set_below hi0 (by have := HMB.out; omega) _ _).low hlo2
      · exact below_set (below_set hbw2 (by omega) _ _) (by omega) _ _

end Go.Proofs.Ytocdkeidjocmkaa
