/- The reference's lines: l04Lines computes linesS. -/
import Derived.Test.YtfdacodbiodiaaaDoorNumbersS
import Derived.Test.YtfdacodbiodiaaaDoorStrRows
import Derived.Test.YtfdacodbiodiaaaDoorReadAuto
namespace Go.Proofs.YtfdacodbiodiaaaDoor
set_option linter.unusedVariables false
set_option linter.unusedSimpArgs false
open Go.ChangeShapes Go.WideShapes Go.ChangeAt Go.RowKit

def LinesRet (r : Option (Int × List (List (List UInt8)))) (w : World) (e : Ending) (w' : World) : Prop :=
  ∃ v, ∃ bss : List (List ByteArray), ∃ st : Int, e = .returned (.tuple #[v, .int .i64 st, .bool r.isSome]) ∧ StrRows w' v bss ∧ (∀ p, r = some p → p = (st, bss.map (fun r => r.map (·.data.toList)))) ∧ Below w.heap.size w w'

theorem cutL_size (c : UInt8) : ∀ (s p : List UInt8), p ∈ cutL c s → p.length ≤ s.length := by
  intro s p hp
  have e := joinL_cutL c s
  have h : ∀ (ps : List (List UInt8)), p ∈ ps → p.length ≤ (joinL c ps).length := by
    intro ps
    induction ps with
    | nil => intro h; cases h
    | cons q qs ih =>
      intro h
      cases qs with
      | nil =>
        have : p = q := by simpa using h
        subst this; exact Nat.le_refl _
      | cons r rs =>
        rw [joinL_cons c q (by simp)]
        rcases List.mem_cons.1 h with h | h
        · subst h; simp
        · have := ih h
          simp only [List.length_append, List.length_cons]
          omega
  rw [← e]
  exact h _ hp
theorem cutL_count (c : UInt8) (s : List UInt8) : (cutL c s).length ≤ s.length + 1 := by
  have e := joinL_cutL c s
  have h : ∀ (ps : List (List UInt8)), ps.length ≤ (joinL c ps).length + 1 := by
    intro ps
    induction ps with
    | nil => simp
    | cons q qs ih =>
      cases qs with
      | nil => simp
      | cons r rs =>
        rw [joinL_cons c q (by simp)]
        simp only [List.length_append, List.length_cons] at ih ⊢
        omega
  have := h (cutL c s)
  rw [e] at this
  exact this
/-- a cut text's pieces -/
structure CutOf (c : UInt8) (s : ByteArray) (bs : List ByteArray) : Prop where
  eq : bs.map (·.data.toList) = cutL c s.data.toList
theorem CutOf.pos {c : UInt8} {s : ByteArray} {bs : List ByteArray} (h : CutOf c s bs) : 0 < bs.length := by
  have := cutL_ne c s.data.toList
  have e := congrArg List.length h.eq
  rw [List.length_map] at e
  rw [e]
  exact List.length_pos_iff.2 this
theorem CutOf.len {c : UInt8} {s : ByteArray} {bs : List ByteArray} (h : CutOf c s bs) : bs.length ≤ s.size + 1 := by
  have e := congrArg List.length h.eq
  rw [List.length_map] at e
  rw [e, ← size_listG]
  exact cutL_count c _
theorem CutOf.size {c : UInt8} {s : ByteArray} {bs : List ByteArray} (h : CutOf c s bs) : ∀ x ∈ bs, x.size ≤ s.size := by
  intro x hx
  rw [← size_listG, ← size_listG]
  refine cutL_size c _ _ ?_
  rw [← h.eq]
  exact List.mem_map_of_mem hx
theorem CutOf.head {c : UInt8} {s : ByteArray} {bs : List ByteArray} (h : CutOf c s bs) : (cutL c s.data.toList).headD [] = (bs[0]'h.pos).data.toList := by
  have hp := h.pos
  rw [← h.eq]
  cases bs with
  | nil => simp at hp
  | cons b bs => rfl
theorem CutOf.drop {c : UInt8} {s : ByteArray} {bs : List ByteArray} (h : CutOf c s bs) (k : Nat) : (cutL c s.data.toList).drop k = (bs.drop k).map (·.data.toList) := by
  rw [← h.eq, List.map_drop]
theorem bytes_ne {a b : ByteArray} (h : a.data.toList ≠ b.data.toList) : a ≠ b := fun e => h (by rw [e])
theorem bytes_eq {a b : ByteArray} (h : a.data.toList = b.data.toList) : a = b := by
  have : a.data = b.data := Array.toList_inj.1 h
  cases a; cases b; simpa using this
theorem bytes_eq_iff {a b : ByteArray} : a.data.toList = b.data.toList ↔ a = b := ⟨bytes_eq, fun e => by rw [e]⟩

def mids (ls : List ByteArray) : List (List (List UInt8)) := ((ls.drop 1).dropLast).map (fun (b : ByteArray) => cutL 32 b.data.toList)
theorem linesS_of {s name : ByteArray} {ls hd : List ByteArray} (h1 : CutOf 10 s ls) (h2 : CutOf 32 (ls[0]'h1.pos) hd) :
    linesS name.data.toList s.data.toList = match allS numS ((hd.map (·.data.toList)).drop 1) with
      | some [a, b] => if hd[0]'h2.pos = name ∧ b = (ls.length : Int) - 2 ∧ ∀ x ∈ mids ls, x.headD [] = letG.data.toList then some (a, mids ls) else none
      | _ => none := by
  unfold linesS
  rw [h1.head, ← h2.eq, ← h1.eq]
  have e : (hd.map (·.data.toList)).headD [] = (hd[0]'h2.pos).data.toList := by rw [h2.eq]; exact h2.head
  have e2 : (((ls.map (·.data.toList)).drop 1).dropLast).map (cutL 32) = mids ls := by
    unfold mids
    rw [← List.map_drop, ← List.map_dropLast, List.map_map]; rfl
  rw [e, e2]
  simp only [bytes_eq_iff, List.length_map]
  generalize allS numS _ = r
  rcases r with _ | (_ | ⟨a, _ | ⟨b, _ | ⟨c, cs⟩⟩⟩) <;> rfl

theorem mids_len (ls : List ByteArray) : (mids ls).length = ls.length - 2 := by
  unfold mids
  rw [List.length_map, List.length_dropLast, List.length_drop]
  omega
theorem mids_step {ls : List ByteArray} {k : Nat} (h1 : 1 ≤ k) (h : k + 1 < ls.length) : (mids ls).take k = (mids ls).take (k - 1) ++ [cutL 32 (ls[k]'(by omega)).data.toList] := by
  have e2 : (mids ls)[k - 1]? = some (cutL 32 (ls[k]'(by omega)).data.toList) := by
    unfold mids
    rw [List.getElem?_map, List.dropLast_eq_take, List.getElem?_take, if_pos (by rw [List.length_drop]; omega), List.getElem?_drop, show 1 + (k - 1) = k by omega, List.getElem?_eq_getElem (by omega)]
    rfl
  have e := List.take_add_one (l := mids ls) (i := k - 1)
  rw [show k - 1 + 1 = k by omega, e2] at e
  exact e
theorem strRows_empty (w : World) (ao : Option Addr) (c : Nat) : StrRows w (.slice ao 0 c) [] :=
  ⟨[], ⟨ao, 0, 0, c, rfl, fun h => by simp at h, fun k hk => by simp at hk, by simp⟩, rfl, fun k hk => by simp at hk⟩

theorem elem_strs : Elem Tryd.prog 42 46 (.slice none 0 0) 24 := ⟨Tryd.underlying42, by kernel_rfl, rfl⟩
theorem size1_intR : ∀ w, (sizeOf 2).run Tryd.prog w = .ok 1 w := fun _ => by kernel_rfl

set_option maxRecDepth 100000 in
set_option maxHeartbeats 4000000 in
theorem l04Lines_any (s name : ByteArray) (w : World) (hs : s.size ≤ 2000) (hn : name.size ≤ 100) :
    Calls Tryd.prog 21 #[.string s, .string name] w (LinesRet (linesS name.data.toList s.data.toList) w) := by
  have HSP := Lib.hid (fun (x : ByteArray) (c : UInt8) W (hx : x.size ≤ 2000) => l01Split_any x c W (by omega))
  have HLS := Lib.hid (fun (ls hd : List ByteArray) (h1 : CutOf 10 s ls) (h2 : CutOf 32 (ls[0]'h1.pos) hd) => linesS_of (name := name) h1 h2)
  generalize linesS name.data.toList s.data.toList = R at HLS ⊢
  go_enter Tryd.func21, Tryd.ntmps21
  go_wp2_with fail
  refine (HSP.out s 10 _ hs).mono ?_
  rintro e w1 ⟨v1, ls, rfl, ho1, hc1, hb1⟩
  have C1 : CutOf 10 s ls := ⟨hc1⟩
  have hp1 := C1.pos
  have hl1 := C1.len
  obtain ⟨g1, k1, rfl, _⟩ := own_some ho1 hp1
  have HLC : Hid (∀ k (h : k < ls.length), w1.cell? ⟨g1, k, none⟩ = some (.string ls[k])) := fun k h => by rw [ho1.cellAt k (by omega)]; simp [h]
  have c0 := HLC.out 0 hp1
  have hz0 : (ls[0]).size ≤ 2000 := by have := C1.size _ (List.getElem_mem hp1); omega
  have HC1 := Lib.hid C1
  have HLS2 := Lib.hid (fun hd h2 => HLS.out ls hd HC1.out h2)
  have HSZ1 := Lib.hid C1.size
  clear ho1 hc1
  obtain ⟨x0, hx0⟩ : ∃ x0, x0 = ls[0] := ⟨_, rfl⟩
  rw [← hx0] at c0 hz0
  have HX0 := Lib.hid hx0
  have i0 := idx_at Tryd.underlying46 size1_stringR (ao := some ⟨g1, 0, none⟩) (b := g1) (o := 0) (n := ls.length) (c := k1) (fun _ => rfl) hp1 .i64 0 rfl
  clear hx0
  go_wp2_with fail
  refine (HSP.out x0 32 _ hz0).mono ?_
  rintro e w2 ⟨v2, hd, rfl, ho2, hc2, hb2⟩
  have C2 : CutOf 32 x0 hd := ⟨hc2⟩
  have hp2 := C2.pos
  have hl2 := C2.len
  obtain ⟨g2, k2, rfl, _⟩ := own_some ho2 hp2
  have HLC2 : Hid (∀ k (h : k < hd.length), w2.cell? ⟨g2, 0 + k, none⟩ = some (.string hd[k])) := fun k h => by rw [Nat.zero_add, ho2.cellAt k (by omega)]; simp [h]
  have d0 := HLC2.out 0 hp2
  rw [Nat.zero_add] at d0
  have hR := HLS2.out hd (by rw [← HX0.out]; exact C2)
  have hsz2 : ∀ x ∈ hd, x.size ≤ 1048576 := fun x hx => by have := C2.size x hx; omega
  obtain ⟨y0, hy0⟩ : ∃ y0, y0 = hd[0]'hp2 := ⟨_, rfl⟩
  rw [← hy0] at d0 hR
  have HNB := Lib.hid (l01Numbers_any hd g2 0 k2 1 w2 (by omega) hsz2 hp2 (block_lt_of_cell d0) HLC2.out)
  have j0 := idx_at Tryd.underlying46 size1_stringR (ao := some ⟨g2, 0, none⟩) (b := g2) (o := 0) (n := hd.length) (c := k2) (fun _ => rfl) hp2 .i64 0 rfl
  have HPOS := Lib.hid (allS_pos ((hd.map (·.data.toList)).drop 1))
  generalize allS numS ((hd.map (·.data.toList)).drop 1) = r at HNB hR HPOS
  have HR := Lib.hid hR
  clear ho2 hc2 C2 hR hsz2 hy0 HLS HLS2
  go_wp2_with fail
  refine HNB.out.mono ?_
  rintro e w3 ⟨v3, zs, rfl, ho3, hz3, hb3⟩
  have hb13 := hb2.trans (hb3.mono hb2.size)
  replace d0 := below_cell hb3 d0
  replace c0 := below_cell hb13 c0
  have hbb := below_trans hb1 hb13
  obtain ⟨a3, m3, c3, rfl, HM3⟩ := own_shape ho3
  obtain rfl : m3 = zs.length := HM3.out
  cases r with
  | none =>
    have hR := HR.out
    simp only [] at hR
    have HR2 := Lib.hid hR
    clear hR ho3 hz3
    go_wp2
    go_ret3
    rw [HR2.out]
    exact ⟨_, [], 0, rfl, strRows_empty _ _ _, (by intro p h; cases h), below_alloc hbb _⟩
  | some ys =>
    obtain rfl := hz3 ys rfl
    by_cases hl : zs.length = 2
    · obtain ⟨a, b, rfl⟩ : ∃ a b, zs = [a, b] := by
        rcases zs with _ | ⟨a, _ | ⟨b, _ | ⟨c, cs⟩⟩⟩
        · simp at hl
        · simp at hl
        · exact ⟨a, b, rfl⟩
        · simp at hl
      have hb0 : 0 ≤ b := HPOS.out _ rfl b (by simp)
      have HRR : Hid (R = if y0 = name ∧ b = (ls.length : Int) - 2 ∧ ∀ x ∈ mids ls, x.headD [] = letG.data.toList then some (a, mids ls) else none) := HR.out
      clear HR
      obtain ⟨g3, k3, hv3, _⟩ := own_some ho3 (by simp)
      injection hv3 with hv3 hv4 hv5
      subst hv3
      have z0 : w3.cell? ⟨g3, 0, none⟩ = some (.int .i64 a) := by rw [ho3.cellAt 0 (by simp)]; simp
      have z1 : w3.cell? ⟨g3, 1, none⟩ = some (.int .i64 b) := by rw [ho3.cellAt 1 (by simp)]; simp
      have fail_post : ∀ (W : World) (e : Ending), R = none → Below w3.heap.size w3 W → e = .returned (.tuple #[.slice (some ⟨w3.heap.size, 0, none⟩) 0 0, .int .i64 0, .bool false]) → LinesRet R w e W := by
        rintro W e hr hbW rfl
        rw [hr]
        exact ⟨_, [], 0, rfl, strRows_empty _ _ _, (by intro p h; cases h), below_trans hbb hbW⟩
      have HFP := Lib.hid fail_post
      clear ho3 hz3 hl hv4 hv5 fail_post HPOS
      by_cases hnm : y0 = name
      · by_cases hbl : b = (ls.length : Int) - 2
        · have hbe : (b != (ls.length : Int) - 2) = false := by simp [hbl]
          have hR : R = if ∀ x ∈ mids ls, x.headD [] = letG.data.toList then some (a, mids ls) else none := by
            rw [HRR.out]
            by_cases hall : ∀ x ∈ mids ls, x.headD [] = letG.data.toList
            · rw [if_pos hall, if_pos ⟨hnm, hbl, hall⟩]
            · rw [if_neg hall, if_neg (fun h => hall h.2.2)]
          have HR2 := Lib.hid hR
          have hlen2 : 2 ≤ ls.length := by omega
          have HOS : Hid (OwnSR (w3.alloc (.cells #[] 46)) w3.heap.size (.slice (some ⟨w3.heap.size, 0, none⟩) 0 0) [] []) := ⟨own_empty w3 w3.heap.size (Nat.le_refl _) _, fun k hk => by simp at hk⟩
          have hbe0 : Below w3.heap.size w3 (w3.alloc (.cells #[] 46)) := below_alloc (Below.refl _ _) _
          clear hR hbl
          go_wp2
          go_loopw [8, 11, 12] (fun wv u i wr => ∃ (k : Nat) (rs : List Value) (bss : List (List ByteArray)), 1 ≤ k ∧ k + 1 ≤ ls.length ∧ i = .int .i64 k ∧ Hid (OwnSR wr w3.heap.size u rs bss) ∧ bss.length + 1 = k ∧ Hid (bss.map (fun r => r.map (·.data.toList)) = (mids ls).take (k - 1)) ∧ Hid (∀ x ∈ (mids ls).take (k - 1), x.headD [] = letG.data.toList) ∧ Below w3.heap.size w3 wr) (fun _ _ i _ => ls.length - (intOf i).toNat)
          case atStart => exact ⟨1, [], [], Nat.le_refl _, hlen2, rfl, HOS.out, rfl, rfl, (by intro x hx; simp at hx), hbe0⟩
          case round =>
            obtain ⟨k, rs, bss, hk1, hk2, rfl, HO, hbs, HM, HL, hb⟩ := hrel
            by_cases hlt : k + 1 < ls.length
            · have ck := HLC.out k (by omega)
              have i1 := idx_of Tryd.underlying46 size1_stringR (ao := some ⟨g1, 0, none⟩) (b := g1) (o := 0) (n := ls.length) (c := k1) (fun _ => rfl) (show k < ls.length by omega) .i64
              rw [Nat.zero_add] at i1
              have hzk : (ls[k]).size ≤ 2000 := by have := HSZ1.out _ (List.getElem_mem (show k < ls.length by omega)); omega
              have HST := Lib.hid (mids_step hk1 hlt)
              obtain ⟨xk, hxk⟩ : ∃ xk, xk = ls[k]'(by omega) := ⟨_, rfl⟩
              rw [← hxk] at ck hzk HST
              have ck2 := below_cell (below_trans hb13 hb) ck
              clear hxk ck
              go_wp2_with fail
              refine (HSP.out xk 32 _ hzk).mono ?_
              rintro e w4 ⟨v4, ws, rfl, ho4, hc4, hb4⟩
              have C4 : CutOf 32 xk ws := ⟨hc4⟩
              have hp4 := C4.pos
              obtain ⟨g4, k4, rfl, _⟩ := own_some ho4 hp4
              have f0 : w4.cell? ⟨g4, 0, none⟩ = some (.string (ws[0]'hp4)) := by rw [ho4.cellAt 0 (by omega)]; simp [hp4]
              have hhd := C4.head
              have HROW : Hid (Strs w4 (.slice (some ⟨g4, 0, none⟩) ws.length k4) ws) := SlT.of_own ho4
              have l0 := idx_at Tryd.underlying46 size1_stringR (ao := some ⟨g4, 0, none⟩) (b := g4) (o := 0) (n := ws.length) (c := k4) (fun _ => rfl) hp4 .i64 0 rfl
              obtain ⟨q0, hq0⟩ : ∃ q0, q0 = ws[0]'hp4 := ⟨_, rfl⟩
              rw [← hq0] at f0 hhd
              have HEQ := Lib.hid C4.eq
              have HO4 := Lib.hid (HO.out.below hb4)
              have hb5 := below_trans hb hb4
              clear ho4 hc4 C4 hq0
              by_cases hle : q0 = ⟨#[108, 101, 116, 116, 101, 114]⟩
              · have HX : Hid ((cutL 32 xk.data.toList).headD [] = letG.data.toList) := by unfold Hid; rw [hhd, hle]; rfl
                clear hhd
                have hbl5 := hb5.size
                have hou := HO4.out.outer
                have hbsl : bss.length ≤ 2001 := by omega
                clear hou
                go_wp2_with (at_builtin; refine wpList_push elem_strs rfl (.tmp 66) (.tmp 68) rfl w3.heap.size rfl HO4.out.outer _ rfl rfl (by unfold maxLen; omega) (by omega) hbl5 ?_; intro v6 w6 ho6 hg6 hs6)
                have hout := OwnSR.append HO4.out hg6 ho6 HROW.out
                have hb6 : Below w3.heap.size w3 w6 := Below.grown hb5 hg6 hb5.size (fun g hg => (own_block HO4.out.outer hg).1)
                have HOUT := Lib.hid hout
                clear ho6 hg6 hs6 hout
                go_wp2
                go_roundw
                case rel =>
                  refine ⟨k + 1, _, bss ++ [ws], by omega, by omega, by go_num, HOUT.out, by simp; omega, ?_, ?_, hb6⟩
                  · unfold Hid
                    rw [List.map_append, HM.out, Nat.add_sub_cancel, HST.out, ← HEQ.out]
                    rfl
                  · unfold Hid
                    rw [Nat.add_sub_cancel, HST.out]
                    intro x hx
                    rcases List.mem_append.1 hx with h | h
                    · exact HL.out x h
                    · rw [List.mem_singleton] at h
                      rw [h]; exact HX.out
                case measure => simp [intOf]; omega
              · have hno : R = none := by
                  rw [HR2.out, if_neg]
                  intro hall
                  have hmem : cutL 32 xk.data.toList ∈ mids ls := by
                    have : cutL 32 xk.data.toList ∈ (mids ls).take k := by rw [HST.out]; simp
                    exact List.mem_of_mem_take this
                  have := hall _ hmem
                  rw [hhd] at this
                  exact hle (bytes_eq this)
                have HNO := Lib.hid hno
                have hse : (q0.toList == [108, 101, 116, 116, 101, 114]) = false := by rw [ByteArray.toList_eq]; exact beq_eq_false_iff_ne.2 (fun h => hle (bytes_eq h))
                obtain ⟨a8, m8, c8, rfl, HM8⟩ := own_shape HO4.out.outer
                clear hno hhd hle
                go_wp2
                go_ret3
                rw [HNO.out]
                exact ⟨_, bss, 0, rfl, HO4.out.reads, (by intro p h; cases h), below_trans hbb hb5⟩
            · have hR : R = some (a, bss.map (fun r => r.map (·.data.toList))) := by
                have hl := mids_len ls
                have h1 := HM.out
                have h2 := HL.out
                rw [List.take_of_length_le (by omega)] at h1 h2
                rw [HR2.out, if_pos h2, h1]
              have HR3 := Lib.hid hR
              replace z0 := below_cell hb z0
              have m0 := idx_at Tryd.underlying45 size1_intR (ao := some ⟨g3, 0, none⟩) (b := g3) (o := 0) (n := 2) (c := k3) (fun _ => rfl) (show 0 < 2 by omega) .i64 0 rfl
              obtain ⟨a8, m8, c8, rfl, HM8⟩ := own_shape HO.out.outer
              clear hR
              go_wp2
              go_region
              go_wp2
              go_ret3
              rw [HR3.out]
              exact ⟨_, bss, a, rfl, HO.out.reads.below (Below.refl _ _).drew, (by intro p h; cases h; rfl), below_trans hbb hb.drew⟩
        · have hbe : (b != (ls.length : Int) - 2) = true := by simp [hbl]
          have hR : R = none := by rw [HRR.out, if_neg]; rintro ⟨_, h, _⟩; exact hbl h
          have HRN := Lib.hid hR
          clear hR hbl
          go_wp2
          go_ret3
          exact HFP.out _ _ HRN.out (below_alloc (Below.refl _ _) _) rfl
      · have hR : R = none := by rw [HRR.out, if_neg]; rintro ⟨h, _⟩; exact hnm h
        have HRN := Lib.hid hR
        have hse : (y0.toList == name.toList) = false := by rw [ByteArray.toList_eq, ByteArray.toList_eq]; exact beq_eq_false_iff_ne.2 (fun h => hnm (bytes_eq h))
        clear hR hnm
        go_wp2
        go_ret3
        exact HFP.out _ _ HRN.out (below_alloc (Below.refl _ _) _) rfl
    · have hne : ((zs.length : Int) != 2) = true := by simp; omega
      have hR : R = none := by
        have := HR.out
        rcases zs with _ | ⟨a, _ | ⟨b, _ | ⟨c, cs⟩⟩⟩
        · exact this
        · exact this
        · simp at hl
        · exact this
      have HR2 := Lib.hid hR
      clear hR ho3 hz3 hl
      go_wp2
      go_ret3
      rw [HR2.out]
      exact ⟨_, [], 0, rfl, strRows_empty _ _ _, (by intro p h; cases h), below_alloc hbb _⟩
end Go.Proofs.YtfdacodbiodiaaaDoor
