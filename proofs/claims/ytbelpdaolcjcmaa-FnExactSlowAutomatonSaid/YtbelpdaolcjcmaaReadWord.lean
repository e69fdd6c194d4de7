/- ReadWord, of the reference and of the program. -/
import Derived.Test.YtbelpdaolcjcmaaWordText
namespace Go.Proofs.Ytbelpdaolcjcmaa
set_option linter.unusedVariables false
set_option linter.unusedSimpArgs false
open Go.ChangeShapes Go.WideShapes Go.ChangeAt Go.RowKit

theorem elem_int : Elem Try.prog 27 2 (.int .i64 0) 8 := ⟨Try.underlying27, by kernel_rfl, rfl⟩

/-- it returns a new slice of numbers and a code -/
def NewInts2 (zs : List Int) (code : Int) (w : World) (e : Ending) (w' : World) : Prop :=
  ∃ v, e = .returned (.tuple #[v, .int .i64 code]) ∧ w'.ownsRow w.heap.size 2 1 v zs.length (zs.map (Value.int .i64)) ∧ Below w.heap.size w w'

def okB (b : UInt8) : Bool := decide (97 ≤ b.toNat) && decide (b.toNat ≤ 99)
def rdL (t : List UInt8) : List Int := t.map fun b => (b.toNat : Int) - 97
def rdOk (t : List UInt8) : Bool := t.all okB && (decide (1 ≤ t.length) && decide (t.length ≤ 400))
def rdList (t : List UInt8) : List Int := if t = [45] then [] else if rdOk t = true then rdL t else []
def rdCode (t : List UInt8) : Int := if t = [45] then 0 else if rdOk t = true then 0 else 5

theorem take_byte (s : ByteArray) (k : Nat) (h : k < s.size) : s.data.toList.take (k + 1) = s.data.toList.take k ++ [s[k]] := by
  rw [List.take_succ_eq_append_getElem (by simpa using h)]; rfl
theorem size_list (s : ByteArray) : s.data.toList.length = s.size := by rw [Array.length_toList]; rfl

theorem own_empty (w : World) (lo : Nat) (h : lo ≤ w.heap.size) : (w.alloc (.cells #[] 2)).ownsRow lo 2 1 (.slice (some ⟨w.heap.size, 0, none⟩) 0 0) 0 [] := World.ownsRow_made w #[] 0 h (by unfold maxLen; omega) (by simp)

theorem specReadWord_any (s : ByteArray) (w : World) (hs : s.size ≤ 1048576) :
    Calls Try.prog 22 #[.string s] w (NewInts2 (rdList s.data.toList) (rdCode s.data.toList) w) := by
  have hsl := size_list s
  by_cases hd : s.data.toList = [45]
  · have e1 : rdList s.data.toList = [] := by unfold rdList; rw [if_pos hd]
    have e2 : rdCode s.data.toList = 0 := by unfold rdCode; rw [if_pos hd]
    rw [e1, e2]
    have hb : (s.toList == [45]) = true := by rw [ByteArray.toList_eq, hd]; rfl
    have HE := Lib.hid (own_empty w w.heap.size (Nat.le_refl _))
    clear e1 e2 hd hsl
    go_enter Try.func22, Try.ntmps22
    go_wp2
    go_ret2
    exact ⟨_, rfl, HE.out, below_alloc (Below.refl _ _) _⟩
  have hb : (s.toList == [45]) = false := by rw [ByteArray.toList_eq]; exact beq_eq_false_iff_ne.2 hd
  have HL : Hid (rdList s.data.toList = if rdOk s.data.toList = true then rdL s.data.toList else []) := by unfold Hid rdList; rw [if_neg hd]
  have HC : Hid (rdCode s.data.toList = if rdOk s.data.toList = true then 0 else 5) := by unfold Hid rdCode; rw [if_neg hd]
  have HD := Lib.hid hd
  have HSL := Lib.hid hsl
  have HE := Lib.hid (own_empty w w.heap.size (Nat.le_refl _))
  clear hd hsl
  go_enter Try.func22, Try.ntmps22
  go_wp2
  go_loopw [4, 5] (fun u i wr => ∃ k : Nat, k ≤ s.size ∧ i = .int .i64 k ∧ Hid ((s.data.toList.take k).all okB = true) ∧ Hid (wr.ownsRow w.heap.size 2 1 u k ((rdL (s.data.toList.take k)).map (Value.int .i64))) ∧ Below w.heap.size w wr) (fun _ i _ => s.size - (intOf i).toNat)
  case atStart => exact ⟨0, Nat.zero_le _, rfl, rfl, HE.out, below_alloc (Below.refl _ _) _⟩
  case round =>
    obtain ⟨k, hk, rfl, hall, HO, hb2⟩ := hrel
    by_cases hlt : k < s.size
    · have HTK := Lib.hid (take_byte s k hlt)
      by_cases hc : 97 ≤ s[k].toNat ∧ s[k].toNat ≤ 99
      · have c1 : (97 : Int) ≤ (s[k].toNat : Int) := by omega
        have c2 : (s[k].toNat : Int) ≤ 99 := by omega
        have HOK : Hid (okB s[k] = true) := by unfold Hid okB; simp [hc.1, hc.2]
        clear hc
        go_wp2_with (at_builtin; refine wpList_push elem_int rfl (.tmp 27) (.tmp 33) rfl w.heap.size rfl HO.out _ rfl rfl (by unfold maxLen; omega) (by omega) hb2.size ?_; intro v' w1 hown' hgr hnn)
        have hb' : Below w.heap.size w w1 := Below.grown hb2 hgr hb2.size (fun g hg => (own_block HO.out hg).1)
        have e : (rdL (s.data.toList.take k)).map (Value.int .i64) ++ [.int .i64 ((s[k].toNat : Int) - 97)] = (rdL (s.data.toList.take (k + 1))).map (Value.int .i64) := by rw [HTK.out]; simp [rdL]
        rw [e] at hown'
        have HN := Lib.hid hown'
        clear hown' hgr e hb2
        go_wp2
        go_roundw
        case rel => exact ⟨k + 1, by omega, by go_num, by unfold Hid; rw [HTK.out, List.all_append, hall.out]; simpa using HOK.out, HN.out, hb'⟩
        case measure => simp [intOf]; omega
      · have hno : rdOk s.data.toList = false := by
          unfold rdOk
          have : s.data.toList.all okB = false := by
            rw [List.all_eq_false]
            refine ⟨s[k], by rw [show s[k] = s.data.toList[k]'(by simpa using hlt) from rfl]; exact List.getElem_mem _, ?_⟩
            unfold okB
            simp only [Bool.and_eq_true, decide_eq_true_eq]
            exact hc
          rw [this]; rfl
        have hl := HL.out
        have hcd := HC.out
        rw [hno] at hl hcd
        have HL2 := Lib.hid hl
        have HC2 := Lib.hid hcd
        have HE2 := Lib.hid (own_empty wr w.heap.size hb2.size)
        clear hl hcd hno
        by_cases h97 : (s[k].toNat : Int) < 97
        · clear hc
          go_wp2
          go_ret2
          rw [HL2.out, HC2.out]
          exact ⟨_, rfl, HE2.out, hb2.alloc hb2.size _⟩
        · have h98 : (97 : Int) ≤ (s[k].toNat : Int) := by omega
          have h99 : (99 : Int) < (s[k].toNat : Int) := by omega
          clear hc h97
          go_wp2
          go_ret2
          rw [HL2.out, HC2.out]
          exact ⟨_, rfl, HE2.out, hb2.alloc hb2.size _⟩
    · obtain rfl : k = s.size := by omega
      obtain ⟨au, mu, cu, rfl, HMu⟩ := own_shape HO.out
      have ho := HO.out
      have hal := hall.out
      rw [← HSL.out, List.take_length] at ho hal
      have hrd : rdOk s.data.toList = inB mu 1 400 := by
        unfold rdOk inB
        rw [hal, Bool.true_and, HSL.out, HMu.out]
        congr 1 <;> · rw [decide_eq_decide]; omega
      have HI := Lib.hid (l00In_any mu 1 400 wr)
      have hmu : mu ≤ 1048576 := by rw [HMu.out]; exact hs
      cases hin : inB mu 1 400
      · rw [hin] at hrd HI
        have hl := HL.out
        have hcd := HC.out
        rw [hrd] at hl hcd
        have HL2 := Lib.hid hl
        have HC2 := Lib.hid hcd
        have HE2 := Lib.hid (own_empty wr w.heap.size hb2.size)
        clear hl hcd hrd hin ho hal hall
        go_wp2_with fail
        refine HI.out.mono ?_
        rintro e w2 ⟨rfl, rfl⟩
        go_wp2
        go_ret2
        rw [HL2.out, HC2.out]
        exact ⟨_, rfl, HE2.out, hb2.alloc hb2.size _⟩
      · rw [hin] at hrd HI
        have hl := HL.out
        have hcd := HC.out
        rw [hrd] at hl hcd
        have HL2 := Lib.hid hl
        have HC2 := Lib.hid hcd
        have HO2 := Lib.hid ho
        clear hl hcd hrd hin ho hal hall
        go_wp2_with fail
        refine HI.out.mono ?_
        rintro e w2 ⟨rfl, rfl⟩
        go_wp2
        go_ret2
        rw [HL2.out, HC2.out]
        exact ⟨_, rfl, by have := HO2.out; rw [HSL.out] at this; simpa [rdL] using this, hb2⟩

theorem allIn_rdL (t : List UInt8) : allIn (rdL t) 0 2 = t.all okB := by
  unfold allIn rdL
  rw [List.all_map]
  congr 1
  funext b
  simp only [Function.comp, inB, okB]
  congr 1 <;> · rw [decide_eq_decide]; omega
theorem letterOf_rd {b : UInt8} (h : okB b = true) : letterOf ((b.toNat : Int) - 97) = b := by
  unfold okB at h
  simp only [Bool.and_eq_true, decide_eq_true_eq] at h
  unfold letterOf
  rw [show 97 + ((b.toNat : Int) - 97).toNat = b.toNat by omega]
  exact UInt8.ofNat_toNat
theorem wordTx_rd {t : List UInt8} (h : rdOk t = true) : wordTx (rdL t) = t := by
  unfold rdOk at h
  simp only [Bool.and_eq_true, decide_eq_true_eq] at h
  obtain ⟨h1, h2, h3⟩ := h
  have hl : (rdL t).length = t.length := by simp [rdL]
  rw [wordTx_some (by omega) (by rw [allIn_rdL, h1]) (by omega)]
  unfold rdL
  rw [List.map_map]
  conv => rhs; rw [← List.map_id t]
  apply List.map_congr_left
  intro b hb
  exact letterOf_rd (by rw [List.all_eq_true] at h1; exact h1 b hb)
theorem wordTx_no {t : List UInt8} (h : rdOk t = false) (h0 : t ≠ []) : wordTx (rdL t) ≠ t := by
  have hl : (rdL t).length = t.length := by simp [rdL]
  have hp : 0 < t.length := List.length_pos_iff.2 h0
  unfold rdOk at h
  intro e
  by_cases ha : t.all okB = true
  · rw [ha, Bool.true_and] at h
    have : 400 < t.length := by
      rw [Bool.and_eq_false_iff] at h
      simp only [decide_eq_false_iff_not] at h
      omega
    rw [wordTx_long (by omega)] at e
    exact h0 e.symm
  · rw [wordTx_bad (by rw [allIn_rdL]; simpa using ha)] at e
    exact h0 e.symm

theorem implReadWord_any (s : ByteArray) (w : World) (hs : s.size ≤ 1048576) :
    Calls Try.prog 23 #[.string s] w (NewInts2 (rdList s.data.toList) (rdCode s.data.toList) w) := by
  have hsl := size_list s
  by_cases hd : s.data.toList = [45]
  · have e1 : rdList s.data.toList = [] := by unfold rdList; rw [if_pos hd]
    have e2 : rdCode s.data.toList = 0 := by unfold rdCode; rw [if_pos hd]
    rw [e1, e2]
    have hsv : s = ⟨#[45]⟩ := by
      obtain ⟨⟨l⟩⟩ := s
      simp at hd
      subst hd
      rfl
    subst hsv
    have HE := Lib.hid (own_empty w w.heap.size (Nat.le_refl _))
    have HW := Lib.hid (implWordText_any (.slice (some ⟨w.heap.size, 0, none⟩) 0 0) [] (w.alloc (.cells #[] 2)) (ints_of_own (own_empty w w.heap.size (Nat.le_refl _))))
    clear e1 e2 hd hsl hs
    go_enter Try.func23, Try.ntmps23
    go_wp2
    refine wp_loop_rounds 2 ?_
    rw [rounds_succ]
    go_wp2
    rw [rounds_succ]
    go_wp2_with fail
    refine HW.out.mono ?_
    rintro e w1 ⟨rfl, hb⟩
    have HO := Lib.hid (own_below HE.out hb)
    go_wp2
    go_ret2
    exact ⟨_, rfl, HO.out, below_trans (below_alloc (Below.refl _ _) _) hb⟩
  have hb : (s.toList == [45]) = false := by rw [ByteArray.toList_eq]; exact beq_eq_false_iff_ne.2 hd
  have hb' : (s.toList != [45]) = true := by rw [ByteArray.toList_eq]; exact bne_iff_ne.2 hd
  have HL : Hid (rdList s.data.toList = if rdOk s.data.toList = true then rdL s.data.toList else []) := by unfold Hid rdList; rw [if_neg hd]
  have HC : Hid (rdCode s.data.toList = if rdOk s.data.toList = true then 0 else 5) := by unfold Hid rdCode; rw [if_neg hd]
  have HD := Lib.hid hd
  have HSL := Lib.hid hsl
  have HE := Lib.hid (own_empty w w.heap.size (Nat.le_refl _))
  clear hd hsl
  go_enter Try.func23, Try.ntmps23
  go_wp2
  go_loopw [4, 5, 9] (fun u _ i wr => ∃ k : Nat, k ≤ s.size ∧ i = .int .i64 k ∧ Hid (wr.ownsRow w.heap.size 2 1 u k ((rdL (s.data.toList.take k)).map (Value.int .i64))) ∧ Below w.heap.size w wr) (fun _ _ i _ => s.size - (intOf i).toNat)
  case atStart => exact ⟨0, Nat.zero_le _, rfl, HE.out, below_alloc (Below.refl _ _) _⟩
  case round =>
    obtain ⟨k, hk, rfl, HO, hb2⟩ := hrel
    by_cases hlt : k < s.size
    · have HTK := Lib.hid (take_byte s k hlt)
      have c1 : (s[k].toNat : Int) < 256 := by have := s[k].toNat_lt; omega
      go_wp2_with (at_builtin; refine wpList_push elem_int rfl (.tmp 14) (.tmp 20) rfl w.heap.size rfl HO.out _ rfl rfl (by unfold maxLen; omega) (by omega) hb2.size ?_; intro v' w1 hown' hgr hnn)
      have hb3 : Below w.heap.size w w1 := Below.grown hb2 hgr hb2.size (fun g hg => (own_block HO.out hg).1)
      have e : (rdL (s.data.toList.take k)).map (Value.int .i64) ++ [.int .i64 ((s[k].toNat : Int) - 97)] = (rdL (s.data.toList.take (k + 1))).map (Value.int .i64) := by rw [HTK.out]; simp [rdL]
      rw [e] at hown'
      have HN := Lib.hid hown'
      clear hown' hgr e hb2
      go_wp2
      go_roundw
      case rel => exact ⟨k + 1, by omega, by go_num, HN.out, hb3⟩
      case measure => simp [intOf]; omega
    · obtain rfl : k = s.size := by omega
      obtain ⟨au, mu, cu, rfl, HMu⟩ := own_shape HO.out
      have ho := HO.out
      rw [← HSL.out, List.take_length] at ho
      have HO2 := Lib.hid ho
      have hW := implWordText_any (.slice au mu cu) (rdL s.data.toList) wr (ints_of_own ho)
      clear ho
      by_cases h0 : s.data.toList = []
      · have g1 : s.toList.isEmpty = true := by rw [ByteArray.toList_eq, h0]; rfl
        have g2 : (s.toList == []) = true := by rw [ByteArray.toList_eq, h0]; rfl
        have hno : rdOk s.data.toList = false := by rw [h0]; rfl
        have hl := HL.out
        have hcd := HC.out
        rw [hno] at hl hcd
        have HL2 := Lib.hid hl
        have HC2 := Lib.hid hcd
        clear hW h0 hno hl hcd
        go_wp2
        go_ret2
        rw [HL2.out, HC2.out]
        exact ⟨_, rfl, World.ownsRow_nil _ _ _ _, hb2⟩
      · have g1 : s.toList.isEmpty = false := by rw [ByteArray.toList_eq]; cases h : s.data.toList with | nil => exact absurd h h0 | cons a b => rfl
        have g2 : (s.toList == []) = false := by rw [ByteArray.toList_eq]; exact beq_eq_false_iff_ne.2 h0
        cases hok : rdOk s.data.toList
        · have hl := HL.out
          have hcd := HC.out
          rw [hok] at hl hcd
          have HL2 := Lib.hid hl
          have HC2 := Lib.hid hcd
          have hne := wordTx_no hok h0
          obtain ⟨q, hq⟩ : ∃ q : ByteArray, q = ⟨(wordTx (rdL s.data.toList)).toArray⟩ := ⟨_, rfl⟩
          rw [← hq] at hW
          have g3 : (q.toList != s.toList) = true := by rw [ByteArray.toList_eq, ByteArray.toList_eq, hq]; exact bne_iff_ne.2 (by simpa using hne)
          have g4 : (q.toList == s.toList) = false := by rw [ByteArray.toList_eq, ByteArray.toList_eq, hq]; exact beq_eq_false_iff_ne.2 (by simpa using hne)
          have HW := Lib.hid hW
          clear hW h0 hok hl hcd hne hq
          go_wp2_with fail
          refine HW.out.mono ?_
          rintro e w1 ⟨rfl, hb5⟩
          go_wp2
          go_ret2
          rw [HL2.out, HC2.out]
          exact ⟨_, rfl, World.ownsRow_nil _ _ _ _, hb2.trans (hb5.mono hb2.size)⟩
        · have hl := HL.out
          have hcd := HC.out
          rw [hok] at hl hcd
          have HL2 := Lib.hid hl
          have HC2 := Lib.hid hcd
          rw [wordTx_rd hok] at hW
          have hqs : (⟨s.data.toList.toArray⟩ : ByteArray) = s := by obtain ⟨⟨l⟩⟩ := s; rfl
          rw [hqs] at hW
          have g3 : (s.toList != s.toList) = false := by simp
          have HW := Lib.hid hW
          clear hW h0 hok hl hcd hqs
          go_wp2_with fail
          refine HW.out.mono ?_
          rintro e w1 ⟨rfl, hb5⟩
          have HO3 := Lib.hid (own_below HO2.out hb5)
          go_wp2
          go_ret2
          rw [HL2.out, HC2.out]
          exact ⟨_, rfl, by have := HO3.out; rw [HSL.out] at this; simpa [rdL] using this, hb2.trans (hb5.mono hb2.size)⟩

end Go.Proofs.Ytbelpdaolcjcmaa
