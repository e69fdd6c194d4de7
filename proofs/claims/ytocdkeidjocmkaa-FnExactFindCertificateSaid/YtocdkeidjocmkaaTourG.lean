/- first of the program; word, l02Shrink, l02Told of the reference. -/
import Derived.Test.YtocdkeidjocmkaaTourF
namespace Go.Proofs.Ytocdkeidjocmkaa
set_option linter.unusedVariables false
set_option linter.unusedSimpArgs false
open Go.ChangeShapes Go.WideShapes Go.ChangeAt Go.RowKit

theorem sl_flocks {w : World} {lo : Nat} {lv : Value} {T : Tour} (h : w.ownsRow lo 101 1 lv T.sets.length (flVals T.sets)) : Sl w lv (flVals T.sets) := sl_of_own h
theorem flVals_at {T : Tour} {k : Nat} (h : k < T.length) : (flVals T.sets).getD k undef = .int .u64 ((T.at k).1 : Int) := by
  rw [List.getD_eq_getElem?_getD, flVals_get (by rw [Tour.sets_len]; exact h), Tour.sets_at h]
  rfl

/-- the first word, out of a map that the call made -/
def FirstPost (lo : Nat) (zs : List Int) (code : Int) (w : World) (e : Ending) (w' : World) : Prop :=
  ∃ v, e = .returned (.tuple #[v, .int .i64 code]) ∧ w'.ownsRow lo 2 1 v zs.length (zs.map (Value.int .i64)) ∧ Below w.heap.size w w'


/-- .. and it is nil just where there is none -/
def FirstNN (lo : Nat) (zs : List Int) (code : Int) (w : World) (e : Ending) (w' : World) : Prop :=
  ∃ v, e = .returned (.tuple #[v, .int .i64 code]) ∧ w'.ownsRow lo 2 1 v zs.length (zs.map (Value.int .i64)) ∧ Below w.heap.size w w' ∧ (code = 0 → v ≠ .slice none 0 0) ∧ (v ≠ .slice none 0 0 → code = 0)

set_option maxRecDepth 100000 in
theorem first_nn (T : Tour) (n lo mb : Nat) (lv : Value) (g : FuncId) (lb : Array Value) (p : Nat → Bool) (w : World) (hT : GoodT n T) (hn : n ≤ 10) (hl : w.ownsRow lo 101 1 lv T.sets.length (flVals T.sets)) (hw : WordMap w lo mb T)
    (eg : ∀ args w, (callFunc g args).run Try.prog w = .ok (.enter g args) w) (hp : ∀ k, k < T.length → ∀ W, Below w.heap.size w W → Calls Try.prog g (#[.int .u64 ((T.at k).1 : Int)] ++ lb) W (RetB (.bool (p (T.at k).1)) W)) :
    Calls Try.prog 117 #[.agg #[lv, .map (some mb)], .func (.func g) #[] lb] w (FirstNN lo (wordP p T) (codeP p T) w) := by
  obtain ⟨lg, lm, lc, rfl, HMl⟩ := own_shape hl
  have hbx : Below w.heap.size w (w.alloc (.cells #[.slice lg lm lc, .map (some mb)] 141)) := below_alloc (Below.refl _ _) _
  have hlen : (flVals T.sets).length = T.length := by rw [flVals_len, Tour.sets_len]
  have HX : ∀ W, W = w.alloc (.cells #[.slice lg lm lc, .map (some mb)] 141) → Calls Try.prog 124 #[.slice lg lm lc, .func (.func g) #[] lb] W (RetB (.int .i64 (firstAt (fun k => p (T.at k).1) T.length)) W) := by
    rintro W rfl
    have C := indexFuncFlock_any (.slice lg lm lc) (flVals T.sets) g lb (fun k => p (T.at k).1) _ ((sl_flocks hl).kept hbx) eg (fun k hk W hW => by
      rw [hlen] at hk
      rw [flVals_at hk]
      exact hp k hk W (below_trans hbx hW))
    rw [hlen] at C
    exact C
  have HH := Lib.hid HX
  clear HX hp eg
  by_cases hex : ∃ k, k < T.length ∧ p (T.at k).1 = true
  · obtain ⟨k, hk, hpk, hno⟩ : ∃ k, k < T.length ∧ p (T.at k).1 = true ∧ ∀ j, j < k → p (T.at j).1 = false := by
      obtain ⟨k0, hk0, hp0⟩ := hex
      have H : ∀ m, (∃ k, k < m ∧ k < T.length ∧ p (T.at k).1 = true) → ∃ k, k < T.length ∧ p (T.at k).1 = true ∧ ∀ j, j < k → p (T.at j).1 = false := by
        intro m
        induction m with
        | zero => rintro ⟨k, hk, _⟩; omega
        | succ m ih =>
          rintro ⟨k, hk, hk2, hk3⟩
          by_cases h : ∃ j, j < m ∧ j < T.length ∧ p (T.at j).1 = true
          · exact ih h
          · have : k = m := by
              rcases Nat.lt_or_ge k m with h2 | h2
              · exact absurd ⟨k, h2, hk2, hk3⟩ h
              · omega
            subst this
            refine ⟨k, hk2, hk3, fun j hj => ?_⟩
            cases hq : p (T.at j).1
            · rfl
            · exact absurd ⟨j, hj, by omega, hq⟩ h
      exact H (k0 + 1) ⟨k0, by omega, hk0, hp0⟩
    have hf := firstT_yes hk hpk hno
    have e1 : wordP p T = (T.at k).2 := by unfold wordP; rw [hf]; rfl
    have e2 : codeP p T = 0 := by unfold codeP; rw [hf]; rfl
    have e3 : firstAt (fun k => p (T.at k).1) T.length = k := firstAt_yes hk hpk hno
    rw [e1, e2]
    rw [e3] at HH
    obtain ⟨F, hmp, hwd⟩ := hw
    obtain ⟨u, hu, hou, hnn⟩ := hwd.word k hk
    have hs := hT.lt _ (Tour.at_mem hk)
    have hs2 : (T.at k).1 < 1024 := Nat.lt_of_lt_of_le hs (Nat.pow_le_pow_right (by decide) hn)
    obtain ⟨g0, hsome, he0, _⟩ := own_some hl (by rw [Tour.sets_len]; omega)
    have hT0 : 0 < T.length := by omega
    have hcell : w.cell? ⟨g0, k, none⟩ = some (.int .u64 ((T.at k).1 : Int)) := by
      rw [he0] at hl
      rw [hl.cellAt k (by rw [Tour.sets_len]; omega), flVals_get (by rw [Tour.sets_len]; exact hk), Tour.sets_at hk]
    rw [Tour.sets_len] at he0
    cases he0
    have i1 := idx_of Try.underlying107 size1_flock (ao := some ⟨g0, 0, none⟩) (b := g0) (o := 0) (n := T.length) (c := lc) (fun _ => rfl) hk .i64
    rw [Nat.zero_add] at i1
    obtain ⟨sk, hsk⟩ : ∃ sk, sk = (T.at k).1 := ⟨_, rfl⟩
    rw [← hsk] at hcell hu hs2
    have HLK := fun W (hW : Below w.heap.size w W) => (hmp.below hW).look flock_law Try.underlying139 (zero_ints W) (key_flock hs2)
    rw [hu] at HLK
    have HL2 := Lib.hid HLK
    have HO := Lib.hid hou
    obtain ⟨au, mu, cu, rfl, HMu⟩ := own_shape hou
    have HNN := Lib.hid hnn
    have hmax : T.length ≤ 1024 := hT.len10 hn
    clear e1 e2 e3 hf hex hno hpk hmp hwd hou hu HLK hsk hs hl hnn
    go_enter Try.func117, Try.ntmps117
    go_wp2_with fail
    refine (HH.out _ rfl).mono ?_
    rintro e w2 ⟨rfl, hb⟩
    have hbb := below_trans hbx hb
    have p0 : w2.cell? ⟨w.heap.size, 0, none⟩ = some (.slice (some ⟨g0, 0, none⟩) T.length lc) := below_cell hb (by go_simp)
    have p1 : w2.cell? ⟨w.heap.size, 1, none⟩ = some (.map (some mb)) := below_cell hb (by go_simp)
    replace hcell := below_cell hbb hcell
    have hlk := fun nd => HL2.out (w2.drewN nd) (below_drewN' hbb nd)
    go_wp2
    go_quiet (fail)
    clear hlk
    go_wp2
    go_ret2
    exact ⟨_, rfl, own_below HO.out (below_drewN' hbb _), below_drewN' hbb _, fun _ => HNN.out, fun _ => rfl⟩
  · have hno : ∀ k, k < T.length → p (T.at k).1 = false := by
      intro k hk
      cases hq : p (T.at k).1
      · rfl
      · exact absurd ⟨k, hk, hq⟩ hex
    have hf := firstT_no hno
    have e1 : wordP p T = [] := by unfold wordP; rw [hf]; rfl
    have e2 : codeP p T = 6 := by unfold codeP; rw [hf]; rfl
    have e3 : firstAt (fun k => p (T.at k).1) T.length = -1 := firstAt_no hno
    rw [e1, e2]
    rw [e3] at HH
    clear e1 e2 e3 hf hex hno hw
    go_enter Try.func117, Try.ntmps117
    go_wp2_with fail
    refine (HH.out _ rfl).mono ?_
    rintro e w2 ⟨rfl, hb⟩
    go_wp2
    go_ret2
    exact ⟨_, rfl, World.ownsRow_nil _ _ _ _, below_trans hbx hb, fun h => absurd h (by decide), fun h => absurd rfl h⟩

theorem first_any (T : Tour) (n lo mb : Nat) (lv : Value) (g : FuncId) (lb : Array Value) (p : Nat → Bool) (w : World) (hT : GoodT n T) (hn : n ≤ 10) (hl : w.ownsRow lo 101 1 lv T.sets.length (flVals T.sets)) (hw : WordMap w lo mb T)
    (eg : ∀ args w, (callFunc g args).run Try.prog w = .ok (.enter g args) w) (hp : ∀ k, k < T.length → ∀ W, Below w.heap.size w W → Calls Try.prog g (#[.int .u64 ((T.at k).1 : Int)] ++ lb) W (RetB (.bool (p (T.at k).1)) W)) :
    Calls Try.prog 117 #[.agg #[lv, .map (some mb)], .func (.func g) #[] lb] w (FirstPost lo (wordP p T) (codeP p T) w) :=
  (first_nn T n lo mb lv g lb p w hT hn hl hw eg hp).mono fun _ _ ⟨v, he, ho, hb, _⟩ => ⟨v, he, ho, hb⟩

theorem walk_set {w : World} {lo tb g c : Nat} {b l : Value} {T : Tour} {bs ls : List Int} (h : WalkAt w lo tb (.slice (some ⟨g, 0, none⟩) T.length c) b l T bs ls) {k : Nat} (hk : k < T.length) : w.cell? ⟨g, k, none⟩ = some (.int .i64 ((T.at k).1 : Int)) := by
  rw [h.hs.cellAt k (by omega), itVals_get (by rw [Tour.sets_len']; exact hk), Tour.sets_at' hk]
theorem GoodT.lt10 {n : Nat} {T : Tour} (h : GoodT n T) (hn : n ≤ 10) {k : Nat} (hk : k < T.length) : (T.at k).1 < 1024 := Nat.lt_of_lt_of_le (h.lt _ (Tour.at_mem hk)) (Nat.pow_le_pow_right (by decide) hn)
theorem own_old {w w' : World} {e : TypeId} {s : Nat} {v : Value} {n : Nat} {xs : List Value} (h : w'.ownsRow w.heap.size e s v n xs) (_ : Below w.heap.size w w') : w'.ownsRow w.heap.size e s v n xs := h
theorem rev_next {α : Type} (l : List α) (q : Nat) (d : α) (hq : q < l.length) : l.reverse.take (l.length - (q + 1)) ++ [l.getD q d] = l.reverse.take (l.length - q) := by
  have e : l.length - q = (l.length - (q + 1)) + 1 := by omega
  have hr : l.length - (q + 1) < l.reverse.length := by rw [List.length_reverse]; omega
  rw [e, List.take_succ_eq_append_getElem hr, List.getElem_reverse]
  congr 1
  rw [List.getD_eq_getElem?_getD, List.getElem?_eq_getElem hq]
  simp only [Option.getD_some]
  congr 2
  omega

set_option maxRecDepth 100000 in
theorem word_any (tb lo k : Nat) (s b l : Value) (T : Tour) (bs ls : List Int) (w : World) (hw : WalkAt w lo tb s b l T bs ls) (hk : k < T.length) (hT : T.length ≤ 1024) :
    Calls Try.prog 92 #[.pointer (some ⟨tb, 0, none⟩), .int .i64 k] w (NewInts (T.at k).2 w) := by
  have hbl := hw.back.blen
  have hll := hw.back.llen
  obtain ⟨bg, bc, rfl, hbc⟩ := own_some hw.hb (by omega)
  obtain ⟨lg, lc, rfl, hlc⟩ := own_some hw.hl (by omega)
  have t1 : w.cell? ⟨tb, 1, none⟩ = some (.slice (some ⟨bg, 0, none⟩) bs.length bc) := by have := hw.st.cellAt 1 (by omega); simpa using this
  have t2 : w.cell? ⟨tb, 2, none⟩ = some (.slice (some ⟨lg, 0, none⟩) ls.length lc) := by have := hw.st.cellAt 2 (by omega); simpa using this

  have CB := Lib.hid (fun j (hj : j < bs.length) => own_int_at hw.hb hj)
  have CL := Lib.hid (fun j (hj : j < ls.length) => own_int_at hw.hl hj)
  have HE := Lib.hid (own_empty w w.heap.size (Nat.le_refl _) 2)
  have HBK := Lib.hid hw.back
  have HBL := Lib.hid hbl
  have HLL := Lib.hid hll
  clear hw hbl hll
  go_enter Try.func92, Try.ntmps92
  go_wp2
  go_loopw [1, 5] (fun a u wr => ∃ (j : Nat) (bk : List Int), j ≤ k ∧ a = .int .i64 j ∧ bk.length + j ≤ k ∧ Hid ((T.at k).2 = (T.at j).2 ++ bk.reverse) ∧ Hid (wr.ownsRow w.heap.size 2 1 u bk.length (bk.map (Value.int .i64))) ∧ Below w.heap.size w wr) (fun a _ _ => (intOf a).toNat)
  case atStart => exact ⟨k, [], Nat.le_refl _, rfl, by simp, by simp [Hid], HE.out, below_alloc (Below.refl _ _) _⟩
  case round =>
    obtain ⟨j, bk, hj, rfl, hbkj, HW, HO, hb⟩ := hrel
    have hjb : j < bs.length := by rw [HBL.out]; omega
    have hjl : j < ls.length := by rw [HLL.out]; omega
    have i1 := idx_of Try.underlying116 size1_i (ao := some ⟨bg, 0, none⟩) (b := bg) (o := 0) (n := bs.length) (c := bc) (fun _ => rfl) hjb .i64
    rw [Nat.zero_add] at i1
    have d1 := below_cell hb (CB.out j hjb)
    have q1 := below_cell hb t1
    have q2 := below_cell hb t2
    by_cases h0 : j = 0
    · subst h0
      have hr := HBK.out.root
      rw [hr.1] at d1
      have hwd : (T.at k).2 = bk.reverse := by have := HW.out; rw [hr.2] at this; simpa using this
      have HWD := Lib.hid hwd
      obtain ⟨au, mu, cu, rfl, HMu⟩ := own_shape HO.out
      obtain ⟨rfl⟩ : mu = bk.length := HMu.out
      have HE2 := Lib.hid (own_empty wr wr.heap.size (Nat.le_refl _) 2)
      obtain ⟨ao3, b3, o3, c3, H3⟩ := (ints_of_own HO.out).open
      have hv3 := H3.val
      have hbl3 : bk.length ≤ 1024 := by omega
      clear hr hwd HW
      rw [Value.slice.injEq] at hv3
      obtain ⟨hv3a, _, _⟩ := hv3
      subst hv3a
      obtain ⟨wo, rfl⟩ : ∃ wo : World, wo = wr := ⟨_, rfl⟩
      go_wp2
      go_loopw [6, 7] (fun u i wr => ∃ q : Nat, q ≤ bk.length ∧ i = .int .i64 ((q : Int) - 1) ∧ Hid (wr.ownsRow wo.heap.size 2 1 u (bk.length - q) ((bk.reverse.take (bk.length - q)).map (Value.int .i64))) ∧ Below wo.heap.size wo wr) (fun _ i _ => (intOf i + 1).toNat)
      case atStart => exact ⟨bk.length, Nat.le_refl _, by go_num, by simpa [Hid] using HE2.out, below_alloc (Below.refl _ _) _⟩
      case round =>
        obtain ⟨q, hq, rfl, HQ, hbq⟩ := hrel
        have hzq : q = 0 ∨ ∃ p : Nat, q = p + 1 := by cases q with
          | zero => exact .inl rfl
          | succ p => exact .inr ⟨p, rfl⟩
        rcases hzq with rfl | ⟨p, rfl⟩
        · rw [show (((0 : Nat) : Int)) - 1 = -1 by omega]
          have hln : bk.length = (T.at k).2.length := by rw [HWD.out, List.length_reverse]
          have hfin := HQ.out
          rw [Nat.sub_zero, List.take_of_length_le (by rw [List.length_reverse]; omega), hln, ← HWD.out] at hfin
          have HFIN := Lib.hid hfin
          have hbw := below_trans hb hbq
          clear hfin hln
          go_wp2
          go_ret
          exact ⟨_, rfl, own_lo HFIN.out hb.size, hbw⟩
        · rw [show (((p + 1 : Nat) : Int)) - 1 = (p : Int) by omega]
          have hpl : p < bk.length := by omega
          have i3 := idx_of Try.underlying55 size1_int (ao := au) (b := b3) (o := o3) (n := bk.length) (c := c3) H3.adr hpl .i64
          have d3 := below_cell hbq (H3.cell p hpl)
          obtain ⟨z, hz⟩ : ∃ z, z = bk.getD p 0 := ⟨_, rfl⟩
          have hrev := rev_next bk p 0 hpl
          rw [← hz] at d3 hrev
          have HREV := Lib.hid hrev
          have hlr : bk.length - p = (bk.length - (p + 1)) + 1 := by omega
          have HLR := Lib.hid hlr
          have hlo3 : w.heap.size ≤ wr.heap.size := Nat.le_trans hb.size hbq.size
          clear hz hrev hlr
          go_wp2_with (at_builtin; refine wpList_push elem_int rfl (.tmp 42) (.tmp 47) rfl wo.heap.size rfl HQ.out _ rfl rfl (by unfold maxLen; omega) (by omega) hbq.size ?_; intro v6 w6 ho6 hg6 hs6)
          have HO6 := Lib.hid ho6
          have hb6 : Below wo.heap.size wo w6 := Below.grown hbq hg6 hbq.size (fun g hg => (own_block HQ.out hg).1)
          clear ho6 hg6 hs6
          go_wp2
          go_roundw
          case rel => exact ⟨p, by omega, by go_num, by
            have h := HO6.out
            rw [← map_snoc_int, HREV.out, ← HLR.out] at h
            exact h, hb6⟩
          case measure => first | (simp [intOf]; done) | (simp [intOf]; omega)
    · obtain ⟨j2, hj2, hbj, hwj⟩ := HBK.out.step j (by omega) (by omega)
      rw [hbj] at d1
      have d2 := below_cell hb (CL.out j hjl)
      have i2 := idx_of Try.underlying55 size1_int (ao := some ⟨lg, 0, none⟩) (b := lg) (o := 0) (n := ls.length) (c := lc) (fun _ => rfl) hjl .i64
      rw [Nat.zero_add] at i2
      obtain ⟨z, hz⟩ : ∃ z, z = ls.getD j 0 := ⟨_, rfl⟩
      rw [← hz] at d2 hwj
      have HWJ := Lib.hid hwj
      have hlo : w.heap.size ≤ wr.heap.size := hb.size
      clear hbj hwj hz
      go_wp2_with (at_builtin; refine wpList_push elem_int rfl (.tmp 17) (.tmp 25) rfl w.heap.size rfl HO.out _ rfl rfl (by unfold maxLen; omega) (by omega) hlo ?_; intro v6 w6 ho6 hg6 hs6; have r1 := grown_cell hg6 (own_old HO.out hb) (block_lt_of_cell t1) q1; have r2 := grown_cell hg6 (own_old HO.out hb) (block_lt_of_cell (CB.out j hjb)) d1)
      have HO6 := Lib.hid ho6
      have hb6 : Below w.heap.size w w6 := Below.grown hb hg6 hlo (fun g hg => (own_block HO.out hg).1)
      clear ho6 hg6 hs6
      go_wp2
      go_roundw
      case rel => exact ⟨j2, bk ++ [z], by omega, by go_num, by simp; omega, by unfold Hid; rw [HW.out, HWJ.out]; simp, by
        have h := HO6.out
        rw [← map_snoc_int] at h
        rw [List.length_append]
        exact h, hb6⟩
      case measure => simp [intOf]; omega


/-- a word that the call made, and whether there is one -/
def ShrinkPost (zs : List Int) (found : Bool) (w : World) (e : Ending) (w' : World) : Prop :=
  ∃ v, e = .returned (.tuple #[v, .bool found]) ∧ w'.ownsRow w.heap.size 2 1 v zs.length (zs.map (Value.int .i64)) ∧ Below w.heap.size w w'

theorem shrink_eq {zs zs0 : List Int} {f f0 : Bool} {w : World} {e : Ending} {w' : World} (h1 : zs = zs0) (h2 : f = f0) (h : ShrinkPost zs0 f0 w e w') : ShrinkPost zs f w e w' := by rw [h1, h2]; exact h

set_option maxRecDepth 100000 in
theorem l02Shrink_any (b : Nat) (st : Int) (v : Value) (xss : List (List Int)) (n f : Nat) (w : World) (d0 : w.cell? ⟨b, 0, none⟩ = some (.int .i64 st)) (d1 : w.cell? ⟨b, 1, none⟩ = some v) (h1 : Rows2 w v xss) (hg : Good st n xss) (hf : f < 2 ^ n) :
    Calls Try.prog 49 #[.pointer (some ⟨b, 0, none⟩), .int .i64 f] w (ShrinkPost (wordP smallB (tourOf xss f)) (firstT smallB (tourOf xss f)).isSome w) := by
  have HF := Lib.hid (l02From_any b st v xss n f w d0 d1 h1 hg hf)
  have hT := GoodT.outer hg.rows hg.len3 hf 1024
  change GoodT n (tourOf xss f) at hT
  have hp := outerT_pos xss f 1024
  change 0 < (tourOf xss f).length at hp
  have hn10 := hg.hi
  generalize tourOf xss f = T at HF hT hp
  have hlen := hT.len10 hn10
  have HLT := Lib.hid (fun k (hk : k < T.length) => hT.lt10 hn10 hk)
  clear d0 d1 h1 hg hf hT
  go_enter Try.func49, Try.ntmps49
  go_wp2_with fail
  refine HF.out.mono ?_
  rintro e w2 ⟨tb, s, bv, l, bs, ls, rfl, hw, hb⟩
  obtain ⟨sg, sc, rfl, hsc⟩ := own_some hw.hs hp
  have t0 : w2.cell? ⟨tb, 0, none⟩ = some (.slice (some ⟨sg, 0, none⟩) T.length sc) := by have := hw.st.cellAt 0 (by omega); simpa using this
  have CS := Lib.hid (fun k (hk : k < T.length) => walk_set hw hk)
  have HW := Lib.hid (fun k (hk : k < T.length) => word_any tb w.heap.size k _ _ _ T bs ls w2 hw hk hlen)
  have HE := Lib.hid (own_empty w2 w2.heap.size (Nat.le_refl _) 2)
  clear hw
  go_wp2
  go_loop [7] (fun i => ∃ k : Nat, k ≤ T.length ∧ i = .int .i64 k ∧ Hid (∀ j, j < k → smallB (T.at j).1 = false)) (fun i => T.length - (intOf i).toNat)
  case atStart => exact ⟨0, Nat.zero_le _, rfl, fun j hj => absurd hj (by omega)⟩
  case round =>
    obtain ⟨k, hk, rfl, hno⟩ := hrel
    by_cases hlt : k < T.length
    · have i1 := idx_of Try.underlying116 size1_i (ao := some ⟨sg, 0, none⟩) (b := sg) (o := 0) (n := T.length) (c := sc) (fun _ => rfl) hlt .i64
      rw [Nat.zero_add] at i1
      have d3 := CS.out k hlt
      have hl2 := HLT.out k hlt
      have HSG := Lib.hid (fun W => l02Single_any (T.at k).1 W hl2)
      obtain ⟨sk, hsk⟩ : ∃ sk, sk = (T.at k).1 := ⟨_, rfl⟩
      rw [← hsk] at d3 HSG
      have HSK := Lib.hid hsk
      clear hsk hl2
      cases hsm : smallB sk
      · rw [hsm] at HSG
        have HSM := Lib.hid hsm
        clear hsm
        go_wp2_with fail
        refine (HSG.out _).mono ?_
        rintro e w3 ⟨rfl, rfl⟩
        go_wp2
        go_round
        case rel => exact ⟨k + 1, by omega, by go_num, fun j hj => by
          rcases Nat.lt_or_ge j k with h | h
          · exact hno.out j h
          · obtain rfl : j = k := by omega
            rw [← HSK.out]; exact HSM.out⟩
        case measure => simp [intOf]; omega
      · rw [hsm] at HSG
        have hft := firstT_yes hlt (by rw [← HSK.out]; exact hsm) hno.out
        have HWP : Hid (wordP smallB T = (T.at k).2 ∧ (firstT smallB T).isSome = true) := ⟨by unfold wordP; rw [hft]; rfl, by rw [hft]; rfl⟩
        have HWK := Lib.hid (HW.out k hlt)
        clear hsm hft
        go_wp2_with fail
        refine (HSG.out _).mono ?_
        rintro e w3 ⟨rfl, rfl⟩
        go_wp2_with fail
        refine HWK.out.mono ?_
        rintro e w4 ⟨vw, rfl, ho, hb4⟩
        have HO := Lib.hid ho
        have hbb := below_trans hb hb4
        have hsz := hb.size
        clear ho
        go_wp2
        go_ret2
        exact shrink_eq HWP.out.1 HWP.out.2 ⟨_, rfl, own_lo HO.out hsz, hbb⟩
    · have hft := firstT_no (p := smallB) (T := T) (fun j hj => hno.out j (by omega))
      have e1 : wordP smallB T = [] := by unfold wordP; rw [hft]; rfl
      have e2 : (firstT smallB T).isSome = false := by rw [hft]; rfl
      have E1 := Lib.hid e1
      have E2 := Lib.hid e2
      have hsz := hb.size
      clear e1 e2 hft
      go_wp2
      go_ret2
      exact shrink_eq E1.out E2.out ⟨_, rfl, own_lo HE.out hsz, below_trans hb (below_alloc (Below.refl _ _) _)⟩


end Go.Proofs.Ytocdkeidjocmkaa
