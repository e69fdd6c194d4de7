/- Lists of rows that the call owns, all blocks parted: how they are made, marked, held. -/
import Derived.Test.YtocdkeidjocmkaaCube
import Derived.Test.YtocdkeidjocmkaaNew
namespace Go.Proofs.Ytocdkeidjocmkaa
set_option linter.unusedVariables false
set_option linter.unusedSimpArgs false
open Go.ChangeShapes Go.WideShapes Go.ChangeAt Go.RowKit

def bulkN (zsss : List (List (List Int))) : Nat := (zsss.map bulk2).sum
theorem bulkN_take (zsss : List (List (List Int))) (k : Nat) (h : k < zsss.length) : bulkN (zsss.take (k + 1)) = bulkN (zsss.take k) + bulk2 (zsss.getD k []) := by
  unfold bulkN
  rw [List.take_succ_eq_append_getElem h, List.map_append, List.sum_append]
  simp [List.getD_eq_getElem?_getD, h]
theorem bulkN_le (zsss : List (List (List Int))) (k : Nat) : bulkN (zsss.take k) ≤ bulkN zsss := by
  have h : bulkN zsss = bulkN (zsss.take k) + bulkN (zsss.drop k) := by
    conv => lhs; rw [← List.take_append_drop k zsss]
    unfold bulkN; rw [List.map_append, List.sum_append]
  omega
/-- the lists of rows, their numbers replaced by k, k + 1, .. throughout -/
def numCube (k : Int) : List (List (List Int)) → List (List (List Int))
  | [] => []
  | z :: zs => numRows k z :: numCube (k + bulk2 z) zs
theorem numCube_length (zsss : List (List (List Int))) : ∀ k, (numCube k zsss).length = zsss.length := by
  induction zsss with
  | nil => intro k; rfl
  | cons z zs ih => intro k; simp [numCube, ih]
theorem numCube_getD (zsss : List (List (List Int))) : ∀ k i, i < zsss.length → (numCube k zsss).getD i [] = numRows (k + bulkN (zsss.take i)) (zsss.getD i []) := by
  induction zsss with
  | nil => intro k i h; simp at h
  | cons z zs ih =>
    intro k i h
    cases i with
    | zero => simp [numCube, bulkN]
    | succ i =>
      have h' : i < zs.length := by simpa using h
      have := ih (k + bulk2 z) i h'
      simp only [numCube, List.getD_cons_succ, List.take_succ_cons]
      rw [this]
      congr 1
      simp [bulkN]
      omega

/-- lists of rows in blocks lo .. hi - 1: list k in blocks a k .. b k - 1, in order; the outer slice apart from them -/
structure CubeF (w : World) (lo hi : Nat) (v : Value) (rs : List Value) (a b : Nat → Nat) (R : Nat → List Value) (zsss : List (List (List Int))) : Prop where
  outer : w.ownsRow lo 22 1 v zsss.length rs
  obk : ∀ g, v.ownBlock = some g → g < hi
  hiw : hi ≤ w.heap.size
  apart : ∀ k, k < zsss.length → ∀ g, v.ownBlock = some g → g < a k ∨ b k ≤ g
  rng : ∀ k, k < zsss.length → lo ≤ a k ∧ a k ≤ b k ∧ b k ≤ hi
  ord : ∀ i j, i < j → j < zsss.length → b i ≤ a j
  row : ∀ k, k < zsss.length → OwnRows w lo (rs.getD k undef) (R k) (zsss.getD k []) ∧ RowsIn (a k) (b k) (rs.getD k undef) (R k) (zsss.getD k []).length
def CubeIn (w : World) (lo hi : Nat) (v : Value) (rs : List Value) (zsss : List (List (List Int))) : Prop := ∃ a b R, CubeF w lo hi v rs a b R zsss

section
variable {w w' : World} {lo lo' hi lo1 hi1 : Nat} {v : Value} {rs : List Value} {a b : Nat → Nat} {R : Nat → List Value} {zsss : List (List (List Int))}
theorem CubeF.len (h : CubeF w lo hi v rs a b R zsss) : rs.length = zsss.length := by have := h.outer.1; omega
theorem CubeF.reads (h : CubeF w lo hi v rs a b R zsss) : Rows3 w v zsss := ⟨rs, sl_of_own h.outer, h.len, fun k hk => (h.row k hk).1.reads⟩
theorem CubeF.below (h : CubeF w lo hi v rs a b R zsss) (hb : Below w.heap.size w w') : CubeF w' lo hi v rs a b R zsss :=
  ⟨own_below h.outer hb, h.obk, Nat.le_trans h.hiw hb.size, h.apart, h.rng, h.ord, fun k hk => ⟨(h.row k hk).1.below hb, (h.row k hk).2⟩⟩
theorem CubeF.mono (h : CubeF w lo hi v rs a b R zsss) (hl : lo' ≤ lo) : CubeF w lo' hi v rs a b R zsss :=
  ⟨own_lo h.outer hl, h.obk, h.hiw, h.apart, fun k hk => ⟨Nat.le_trans hl (h.rng k hk).1, (h.rng k hk).2⟩, h.ord, fun k hk => ⟨(h.row k hk).1.mono hl, (h.row k hk).2⟩⟩
theorem CubeF.chg (h : CubeF w lo hi v rs a b R zsss) (hb : Chg lo1 hi1 w w') (ho : hi ≤ lo1 ∨ hi1 ≤ lo) : CubeF w' lo hi v rs a b R zsss := by
  refine ⟨own_chg h.outer hb fun g hg => ?_, h.obk, Nat.le_trans h.hiw hb.size, h.apart, h.rng, h.ord, fun k hk => ⟨(h.row k hk).1.chg (h.row k hk).2 hb ?_, (h.row k hk).2⟩⟩
  · have h1 := h.obk g hg
    have h2 := own_block h.outer hg
    omega
  · have := h.rng k hk
    omega
theorem CubeF.set_below (h : CubeF w lo hi v rs a b R zsss) {g : Nat} (hg : g < lo) (o : Nat) (u : Value) : CubeF (w.setCell ⟨g, o, none⟩ u) lo hi v rs a b R zsss :=
  ⟨ownsRow_setCell_below h.outer hg u, h.obk, by simpa using h.hiw, h.apart, h.rng, h.ord, fun k hk => ⟨(h.row k hk).1.set_below hg o u, (h.row k hk).2⟩⟩
/-- one list of rows has got other numbers -/
theorem CubeF.turned (h : CubeF w lo hi v rs a b R zsss) {k : Nat} (hk : k < zsss.length) {ys : List (List Int)} (hl : ys.length = (zsss.getD k []).length) (hr : OwnRows w' lo (rs.getD k undef) (R k) ys) (hc : Chg (a k) (b k) w w') : CubeF w' lo hi v rs a b R (zsss.set k ys) := by
  refine ⟨?_, h.obk, Nat.le_trans h.hiw hc.size, fun j hj => h.apart j (by simpa using hj), fun j hj => h.rng j (by simpa using hj), fun i j hij hj => h.ord i j hij (by simpa using hj), fun j hj => ?_⟩
  · rw [List.length_set]
    exact own_chg h.outer hc (h.apart k hk)
  · rw [List.length_set] at hj
    rcases Nat.lt_trichotomy j k with hjk | rfl | hjk
    · rw [getD_set_other _ _ _ _ _ (by omega)]
      exact ⟨(h.row j hj).1.chg (h.row j hj).2 hc (.inl (h.ord j k hjk hk)), (h.row j hj).2⟩
    · rw [getD_set_same _ _ _ _ hj]
      exact ⟨hr, by rw [hl]; exact (h.row j hj).2⟩
    · rw [getD_set_other _ _ _ _ _ (by omega)]
      exact ⟨(h.row j hj).1.chg (h.row j hj).2 hc (.inr (h.ord k j hjk hj)), (h.row j hj).2⟩
theorem CubeIn.reads (h : CubeIn w lo hi v rs zsss) : Rows3 w v zsss := by obtain ⟨a, b, R, h⟩ := h; exact h.reads
theorem CubeIn.below (h : CubeIn w lo hi v rs zsss) (hb : Below w.heap.size w w') : CubeIn w' lo hi v rs zsss := by obtain ⟨a, b, R, h⟩ := h; exact ⟨a, b, R, h.below hb⟩
theorem CubeIn.mono (h : CubeIn w lo hi v rs zsss) (hl : lo' ≤ lo) : CubeIn w lo' hi v rs zsss := by obtain ⟨a, b, R, h⟩ := h; exact ⟨a, b, R, h.mono hl⟩
theorem CubeIn.chg (h : CubeIn w lo hi v rs zsss) (_ : True) (hb : Chg lo1 hi1 w w') (ho : hi ≤ lo1 ∨ hi1 ≤ lo) : CubeIn w' lo hi v rs zsss := by obtain ⟨a, b, R, h⟩ := h; exact ⟨a, b, R, h.chg hb ho⟩
theorem CubeIn.set_below (h : CubeIn w lo hi v rs zsss) {g : Nat} (hg : g < lo) (o : Nat) (u : Value) : CubeIn (w.setCell ⟨g, o, none⟩ u) lo hi v rs zsss := by obtain ⟨a, b, R, h⟩ := h; exact ⟨a, b, R, h.set_below hg o u⟩
theorem CubeIn.outer (h : CubeIn w lo hi v rs zsss) : w.ownsRow lo 22 1 v zsss.length rs := by obtain ⟨a, b, R, h⟩ := h; exact h.outer
theorem CubeIn.within (h : CubeIn w lo hi v rs zsss) : True := trivial
theorem cubeIn_nil (w : World) (lo : Nat) : CubeIn w lo w.heap.size (.slice none 0 0) [] [] :=
  ⟨fun _ => 0, fun _ => 0, fun _ => [], World.ownsRow_nil _ _ _ _, fun g hg => by simp [Value.ownBlock] at hg, Nat.le_refl _, fun k hk => by simp at hk, fun k hk => by simp at hk, fun i j _ hj => by simp at hj, fun k hk => by simp at hk⟩
/-- up to here -/
theorem CubeIn.upto (h : CubeIn w lo hi v rs zsss) : CubeIn w lo w.heap.size v rs zsss := by
  obtain ⟨a, b, R, h⟩ := h
  exact ⟨a, b, R, h.outer, fun g hg => Nat.lt_of_lt_of_le (h.obk g hg) h.hiw, Nat.le_refl _, h.apart, fun k hk => ⟨(h.rng k hk).1, (h.rng k hk).2.1, Nat.le_trans (h.rng k hk).2.2 h.hiw⟩, h.ord, h.row⟩
end

/-- one list more: its blocks are new since W, the outer slice has grown behind -/
theorem CubeIn.push {W w2 w6 : World} {lo hi : Nat} {v v6 r : Value} {rs rss : List Value} {zsss : List (List (List Int))} {zss : List (List Int)} (h : CubeIn W lo hi v rs zsss) (hlo : lo ≤ W.heap.size) (hb : Below W.heap.size W w2)
    (hr : OwnRows w2 W.heap.size r rss zss) {w2' : World} (hb2 : Below w2.heap.size w2 w2') (ho : w6.ownsRow lo 22 1 v6 (zsss.length + 1) (rs ++ [r])) (hg : w2'.grownBy w6 v.ownBlock) (hs : SameOrNew v v6 w2'.heap.size) : CubeIn w6 lo w6.heap.size v6 (rs ++ [r]) (zsss ++ [zss]) := by
  obtain ⟨a, b, R, h⟩ := h
  have hbb := below_trans hb hb2
  have h2 := h.below hbb
  have hlen := h.len
  have hh := h.hiw
  have hwr := hr.within
  have hz := hb.size
  have hz2 := hb2.size
  have hz6 := hg.size
  have hor : OwnRows w6 lo r rss zss := ((hr.below hb2).mono hlo).kept_out h2.outer hg
  have hv6 : ∀ g, v6.ownBlock = some g → (v.ownBlock = some g) ∨ w2'.heap.size ≤ g := fun g hgg => by
    rcases hs with hs | ⟨k, hs, hk⟩
    · exact .inl (hs ▸ hgg)
    · rw [hs] at hgg; cases hgg; exact .inr hk
  have oldk : ∀ k, k < zsss.length → (rs ++ [r]).getD k undef = rs.getD k undef ∧ (zsss ++ [zss]).getD k [] = zsss.getD k [] := fun k hk => by
    constructor
    · simp [List.getD_eq_getElem?_getD, List.getElem?_append, hlen, hk]
    · simp [List.getD_eq_getElem?_getD, List.getElem?_append, hk]
  have newk : (rs ++ [r]).getD zsss.length undef = r ∧ (zsss ++ [zss]).getD zsss.length [] = zss := by
    constructor
    · simp [List.getD_eq_getElem?_getD, hlen]
    · simp [List.getD_eq_getElem?_getD]
  have hL : (zsss ++ [zss]).length = zsss.length + 1 := by simp
  refine ⟨fun k => if k < zsss.length then a k else W.heap.size, fun k => if k < zsss.length then b k else w2.heap.size, fun k => if k < zsss.length then R k else rss, by rw [hL]; exact ho, fun g hgg => (own_block ho hgg).2, Nat.le_refl _, fun k hk g hgg => ?_, fun k hk => ?_, fun i j hij hj => ?_, fun k hk => ?_⟩
  · rw [hL] at hk
    by_cases hkn : k < zsss.length
    · simp only [if_pos hkn]
      have hrn := h.rng k hkn
      rcases hv6 g hgg with h1 | h1
      · exact h.apart k hkn g h1
      · right; omega
    · simp only [if_neg hkn]
      rcases hv6 g hgg with h1 | h1
      · have := h.obk g h1; left; omega
      · right; omega
  · rw [hL] at hk
    by_cases hkn : k < zsss.length
    · simp only [if_pos hkn]
      have hrn := h.rng k hkn
      omega
    · simp only [if_neg hkn]
      omega
  · rw [hL] at hj
    have hi : i < zsss.length := by omega
    simp only [if_pos hi]
    by_cases hjn : j < zsss.length
    · simp only [if_pos hjn]
      exact h.ord i j hij hjn
    · simp only [if_neg hjn]
      have hrn := h.rng i hi
      omega
  · rw [hL] at hk
    by_cases hkn : k < zsss.length
    · simp only [if_pos hkn]
      rw [(oldk k hkn).1, (oldk k hkn).2]
      exact ⟨(h2.row k hkn).1.kept_out h2.outer hg, (h2.row k hkn).2⟩
    · obtain rfl : k = zsss.length := by omega
      simp only [if_neg hkn]
      rw [newk.1, newk.2]
      exact ⟨hor, hwr⟩

/-- the numbers are marked from k0 on -/
def Marked3 (v : Value) (lo hi : Nat) (rs : List Value) (xsss : List (List (List Int))) (k0 : Int) (w : World) (e : Ending) (w' : World) : Prop :=
  e = .returned (.int .i64 (k0 + bulkN xsss)) ∧ CubeIn w' lo hi v rs (numCube k0 xsss) ∧ Chg lo hi w w'

theorem numCube_step {xsss : List (List (List Int))} {k0 : Int} {k : Nat} (hlt : k < xsss.length) : ((numCube k0 xsss).take k ++ xsss.drop k).set k (numRows (k0 + bulkN (xsss.take k)) (xsss.getD k [])) = (numCube k0 xsss).take (k + 1) ++ xsss.drop (k + 1) := by
  have hl : ((numCube k0 xsss).take k).length = k := by rw [List.length_take, numCube_length]; omega
  have hk2 : k < (numCube k0 xsss).length := by rw [numCube_length]; exact hlt
  rw [List.drop_eq_getElem_cons hlt, List.set_append_right _ _ (by omega), hl, Nat.sub_self, List.set_cons_zero, List.take_succ_eq_append_getElem hk2, List.append_assoc]
  have := numCube_getD xsss k0 k hlt
  rw [List.getD_eq_getElem?_getD, List.getElem?_eq_getElem hk2] at this
  simp only [Option.getD_some] at this
  rw [this]
  rfl
theorem numCube_at {xsss : List (List (List Int))} {k0 : Int} {k : Nat} (hlt : k < xsss.length) : ((numCube k0 xsss).take k ++ xsss.drop k).getD k [] = xsss.getD k [] ∧ ((numCube k0 xsss).take k ++ xsss.drop k).length = xsss.length := by
  have hl : ((numCube k0 xsss).take k).length = k := by rw [List.length_take, numCube_length]; omega
  exact ⟨by simp [List.getD_eq_getElem?_getD, List.getElem?_append, hl], by rw [List.length_append, hl, List.length_drop]; omega⟩

set_option maxHeartbeats 1000000 in
theorem markCube_any (v : Value) (lo hi : Nat) (rs : List Value) (xsss : List (List (List Int))) (k0 : Int) (w : World) (hown : CubeIn w lo hi v rs xsss) (h0 : 0 ≤ k0) (hk0 : k0 + bulkN xsss ≤ 4611686018427387904) :
    Calls Try.prog 45 #[v, .int .i64 k0] w (Marked3 v lo hi rs xsss k0 w) := by
  obtain ⟨a, b, R, hF⟩ := hown
  obtain ⟨ao1, p1, o1, c1, H1⟩ := hF.reads.open
  obtain rfl := H1.val
  have A1 := H1.adr
  have hm := H1.len
  have HF := Lib.hid hF
  have HK0 := Lib.hid hk0
  clear hF H1 hk0
  go_enter Try.func45, Try.ntmps45
  go_wp2
  go_loopw [1, 5] (fun q i wr => ∃ k : Nat, k ≤ xsss.length ∧ i = .int .i64 k ∧ q = .int .i64 (k0 + bulkN (xsss.take k)) ∧ Hid (CubeF wr lo hi (.slice ao1 xsss.length c1) rs a b R ((numCube k0 xsss).take k ++ xsss.drop k)) ∧ Chg lo hi w wr) (fun _ i _ => xsss.length - (intOf i).toNat)
  case atStart => exact ⟨0, Nat.zero_le _, rfl, by simp [bulkN], by simpa [Hid] using HF.out, Chg.refl _ _ _⟩
  case round =>
    obtain ⟨k, hk, rfl, rfl, HO, hg⟩ := hrel
    by_cases hlt : k < xsss.length
    · have i1 := idx_of Try.underlying26 size1_rows (c := c1) A1 hlt .i64
      obtain ⟨hat, hln⟩ := numCube_at (k0 := k0) hlt
      obtain ⟨gm, cm, hve, _⟩ := own_some HO.out.outer (by rw [hln]; omega)
      rw [Value.slice.injEq] at hve
      have ha := A1 (by omega)
      have hpo : p1 = gm ∧ o1 = 0 := by have e := ha.symm.trans hve.1; simpa using e
      obtain ⟨rfl, rfl⟩ := hpo
      have hou := HO.out.outer
      rw [hln, hve.1] at hou
      have d1 := hou.cellAt k (by omega)
      rw [show rs[k]? = some (rs.getD k undef) by rw [List.getD_eq_getElem?_getD, List.getElem?_eq_getElem (by rw [HO.out.len, hln]; exact hlt)]; rfl] at d1
      rw [Nat.zero_add] at i1
      obtain ⟨hr, hri⟩ := HO.out.row k (by rw [hln]; exact hlt)
      rw [hat] at hr hri
      have e1 := bulkN_take xsss k hlt
      have e2 := bulkN_le xsss (k + 1)
      have hk9 := HK0.out
      have HC := Lib.hid (markRows_chg (rs.getD k undef) (a k) (b k) (R k) (xsss.getD k []) (k0 + bulkN (xsss.take k)) wr (hr.low2 hri) hri (by omega) (by omega))
      have HST := Lib.hid (numCube_step (k0 := k0) hlt)
      have hrg := HF.out.rng k hlt
      obtain ⟨q, hq⟩ : ∃ q : Nat, q = bulkN (xsss.take k) := ⟨_, rfl⟩
      obtain ⟨m, hm2⟩ : ∃ m : Nat, m = bulk2 (xsss.getD k []) := ⟨_, rfl⟩
      have HLN := Lib.hid (show (numRows (k0 + bulkN (xsss.take k)) (xsss.getD k [])).length = (xsss.getD k []).length from numRows_length _ _)
      unfold Marked2 at HC
      rw [← hq, ← hm2] at HC
      rw [← hq, ← hm2] at e1
      rw [← hq] at HST HLN
      rw [← hq]
      have E1 := Lib.hid e1
      have HATL := Lib.hid (And.intro hat hln)
      have HRX := Lib.hid hrg
      have hqm : k0 + (q : Int) + (m : Int) ≤ 4611686018427387904 := by omega
      obtain ⟨rk, hrk⟩ : ∃ rk, rk = rs.getD k undef := ⟨_, rfl⟩
      rw [← hrk] at d1 HC
      have HRK := Lib.hid hrk
      clear e1 e2 hk9 hq hm2 hat hln hr hri hou hve ha hrg hrk
      go_wp2_with fail
      refine HC.out.mono ?_
      rintro e w2 ⟨rfl, ho2, hc2⟩
      have ht := HO.out.turned (k := k) (ys := numRows (k0 + q) (xsss.getD k [])) (w' := w2) (by rw [HATL.out.2]; exact hlt) (by rw [HLN.out, HATL.out.1]) (by rw [← HRK.out]; exact ho2.mono HRX.out.1) hc2
      rw [HST.out] at ht
      have HT := Lib.hid ht
      have hg3 : Chg lo hi w w2 := hg.trans ⟨hc2.os, hc2.tape, hc2.output, hc2.size, fun j hj hjo => hc2.block j hj (by have := HRX.out; omega)⟩
      clear ht ho2 hc2 hg
      go_wp2
      go_roundw
      case rel => exact ⟨k + 1, by omega, by go_num, by rw [E1.out]; go_num, HT.out, hg3⟩
      case measure => simp [intOf]; omega
    · obtain rfl : k = xsss.length := by omega
      have ho := HO.out
      rw [List.take_of_length_le (by rw [numCube_length]; omega), List.drop_of_length_le (by omega), List.append_nil] at ho
      have HX := Lib.hid ho
      clear ho
      rw [List.take_length]
      go_wp2
      go_ret
      exact ⟨rfl, ⟨a, b, R, HX.out⟩, hg⟩

end Go.Proofs.Ytocdkeidjocmkaa
