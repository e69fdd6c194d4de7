/- The arrangements of all towns, and how many colourings there are: of the reference and of the program. -/
import Derived.Test.YtlgnbbfhejjodaaArrSpec
import Derived.Test.YtlgnbbfhejjodaaArrImpl
import Derived.Test.YtlgnbbfhejjodaaPaintGood
import Derived.Test.YtlgnbbfhejjodaaCube
import Derived.Test.YtlgnbbfhejjodaaValidRoad
namespace Go.Proofs.Ytlgnbbfhejjodaa
set_option linter.unusedVariables false
set_option linter.unusedSimpArgs false
open Go.ChangeShapes Go.WideShapes Go.ChangeAt Go.RowKit

theorem elem_rows : Elem Try.prog 91 22 (.slice none 0 0) 24 := ⟨Try.underlying91, by kernel_rfl, rfl⟩

/-- lists of rows that the call owns, as far as it reads them -/
structure OwnLists (w : World) (lo : Nat) (v : Value) (rs : List Value) (zsss : List (List (List Int))) : Prop where
  outer : w.ownsRow lo 22 1 v zsss.length rs
  row : ∀ k, k < zsss.length → ∃ rss, OwnRows w lo (rs.getD k undef) rss (zsss.getD k [])
section
variable {w w' : World} {lo lo' : Nat} {v v' r : Value} {rs rss : List Value} {zsss : List (List (List Int))} {zss : List (List Int)}
theorem OwnLists.len (h : OwnLists w lo v rs zsss) : rs.length = zsss.length := by have := h.outer.1; omega
theorem OwnLists.reads (h : OwnLists w lo v rs zsss) : Rows3 w v zsss :=
  ⟨rs, sl_of_own h.outer, h.len, fun k hk => by obtain ⟨rss, h1⟩ := h.row k hk; exact h1.reads⟩
theorem OwnLists.below (h : OwnLists w lo v rs zsss) (hb : Below w.heap.size w w') : OwnLists w' lo v rs zsss :=
  ⟨own_below h.outer hb, fun k hk => by obtain ⟨rss, h1⟩ := h.row k hk; exact ⟨rss, h1.below hb⟩⟩
theorem OwnLists.mono (h : OwnLists w lo v rs zsss) (hl : lo' ≤ lo) : OwnLists w lo' v rs zsss :=
  ⟨own_lo h.outer hl, fun k hk => by obtain ⟨rss, h1⟩ := h.row k hk; exact ⟨rss, h1.mono hl⟩⟩
theorem OwnLists.keptBy {row : Option Nat} (h : OwnLists w lo v rs zsss) (hg : w.grownBy w' row) (hr : ∀ g, row = some g → g < lo) : OwnLists w' lo v rs zsss := by
  have A : ∀ {e : TypeId} {s n : Nat} {u : Value} {xs : List Value}, w.ownsRow lo e s u n xs → w'.ownsRow lo e s u n xs := fun {e s n u xs} ho => by
    refine ho.kept hg ?_
    cases hv : u.ownBlock with
    | none => exact .inl rfl
    | some q =>
      refine .inr fun hh => ?_
      have h1 := own_block ho hv
      have h2 := hr q hh.symm
      omega
  exact ⟨A h.outer, fun k hk => by obtain ⟨rss, h1⟩ := h.row k hk; exact ⟨rss, A h1.outer, fun j hj => A (h1.row j hj), h1.apart⟩⟩
theorem ownLists_nil (w : World) (lo : Nat) : OwnLists w lo (.slice none 0 0) [] [] := ⟨World.ownsRow_nil _ _ _ _, fun k hk => by simp at hk⟩
theorem ownLists_empty (w : World) (lo : Nat) (h : lo ≤ w.heap.size) : OwnLists (w.alloc (.cells #[] 22)) lo (.slice (some ⟨w.heap.size, 0, none⟩) 0 0) [] [] := ⟨own_empty w lo h _, fun k hk => by simp at hk⟩
theorem OwnLists.pushed (h : OwnLists w lo v rs zsss) (hg : w.grownBy w' v.ownBlock) (ho : w'.ownsRow lo 22 1 v' (zsss.length + 1) (rs ++ [r])) (hr : OwnRows w lo r rss zss) : OwnLists w' lo v' (rs ++ [r]) (zsss ++ [zss]) := by
  have hlen := h.len
  refine ⟨by rw [List.length_append, List.length_singleton]; exact ho, fun k hk => ?_⟩
  rw [List.length_append, List.length_singleton] at hk
  by_cases hin : k < zsss.length
  · rw [show (rs ++ [r]).getD k undef = rs.getD k undef by simp [List.getD_eq_getElem?_getD, List.getElem?_append, hlen, hin], show (zsss ++ [zss]).getD k [] = zsss.getD k [] by simp [List.getD_eq_getElem?_getD, List.getElem?_append, hin]]
    obtain ⟨q, h1⟩ := h.row k hin
    exact ⟨q, h1.kept_out h.outer hg⟩
  · obtain rfl : k = zsss.length := by omega
    rw [show (rs ++ [r]).getD zsss.length undef = r by simp [List.getD_eq_getElem?_getD, hlen], show (zsss ++ [zss]).getD zsss.length [] = zss by simp [List.getD_eq_getElem?_getD]]
    exact ⟨rss, hr.kept_out h.outer hg⟩
end
/-- new lists of rows -/
def NewLists (zsss : List (List (List Int))) (w : World) (e : Ending) (w' : World) : Prop := ∃ v rs, e = .returned v ∧ OwnLists w' w.heap.size v rs zsss ∧ Below w.heap.size w w'

theorem RowsC.open {w : World} {v : Value} {zss : List (List Int)} (h : RowsC w v zss) : ∃ ao b o c, v = .slice ao zss.length c ∧ (0 < zss.length → ao = some ⟨b, o, none⟩) ∧ (∀ k, k < zss.length → ∃ r, w.cell? ⟨b, o + k, none⟩ = some r ∧ IntsC w r (zss.getD k [])) ∧ zss.length ≤ 9223372036854775807 := by
  obtain ⟨rs, ⟨ao, b, o, c, hv, ha, hc, hl⟩, hn, hr⟩ := h
  exact ⟨ao, b, o, c, by rw [← hn]; exact hv, by rw [← hn]; exact ha, fun k hk => ⟨_, hc k (by omega), hr k hk⟩, by omega⟩
theorem IntsC.kept {w w' : World} {v : Value} {zs : List Int} (h : IntsC w v zs) (hb : Below w.heap.size w w') : IntsC w' v zs := ⟨h.1.kept hb, h.2⟩

set_option maxRecDepth 100000 in
set_option maxHeartbeats 1000000 in
theorem l05Choices_any (b : Nat) (v : Value) (xss : List (List Int)) (w : World) (d1 : w.cell? ⟨b, 1, none⟩ = some v) (h1 : RowsC w v xss) (hl : xss.length ≤ 7) (hr : ∀ s, s < xss.length → (xss.getD s []).length ≤ 3) :
    Calls Try.prog 74 #[.pointer (some ⟨b, 0, none⟩)] w (NewLists (choices xss) w) := by
  obtain ⟨ao, p, o, c, rfl, A1, HC1, hm⟩ := h1.open
  have HROW := Lib.hid HC1
  have HE := Lib.hid (ownLists_empty w w.heap.size (Nat.le_refl _))
  have hbe : Below w.heap.size w (w.alloc (.cells #[] 22)) := below_alloc (Below.refl _ _) _
  have HAR := Lib.hid (fun s (hs : s < xss.length) r W (hi : IntsC W r (xss.getD s [])) => arran_any (xss.getD s []).length (xss.getD s []) r W rfl (hr s hs) hi)
  have HCT := Lib.hid (fun k (hk : k < xss.length) => choices_take xss k hk)
  have HCL := Lib.hid (choices_len xss)
  clear h1 HC1 hr
  go_enter Try.func74, Try.ntmps74
  go_wp2
  go_loopw [3, 4] (fun u i wr => ∃ k : Nat, k ≤ xss.length ∧ i = .int .i64 k ∧ Hid (∃ rs, OwnLists wr w.heap.size u rs ((choices xss).take k)) ∧ Below w.heap.size w wr) (fun _ i _ => xss.length - (intOf i).toNat)
  case atStart => exact ⟨0, Nat.zero_le _, rfl, ⟨[], HE.out⟩, hbe⟩
  case round =>
    obtain ⟨k, hk, rfl, HT, hb⟩ := hrel
    obtain ⟨au, mu, cu, rfl, HMu⟩ : ∃ ao m c, _ = Value.slice ao m c ∧ Hid (m = ((choices xss).take k).length) := by
      obtain ⟨rs, ho⟩ := HT.out
      exact own_shape ho.outer
    have e1 := below_cell hb d1
    have le1 := block_lt_of_cell e1
    by_cases hlt : k < xss.length
    · have i1 := idx_of Try.underlying22 size1_ints (c := c) A1 hlt .i64
      obtain ⟨r1, dr, hr1⟩ := HROW.out k hlt
      replace dr := below_cell hb dr
      have ldr := block_lt_of_cell dr
      have HC := Lib.hid (HAR.out k hlt r1 wr (hr1.kept hb))
      have hkl : ((choices xss).take k).length = k := by rw [List.length_take, HCL.out]; omega
      have HKL := Lib.hid hkl
      clear hr1 hkl
      go_wp2_with fail
      refine HC.out.mono ?_
      rintro e w2 ⟨v2, rs2, rfl, ho2, hb2, hnn⟩
      obtain ⟨a2, m2, c2, rfl, HM2⟩ := own_shape ho2.outer
      obtain ⟨rs, ho⟩ := HT.out
      have hb3 := below_trans hb hb2
      have ho3 := ho.below hb2
      have hpre : w2.ownsRow w.heap.size 22 1 (.slice au mu cu) k rs := by have h := ho3.outer; rw [HKL.out] at h; exact h
      have HO3 := Lib.hid ho3
      have HPR := Lib.hid hpre
      have HO2 : Hid (OwnRows w2 w.heap.size (.slice a2 m2 c2) rs2 (arrOf (xss.getD k []))) := ho2.mono hb.size
      have hk7 : k ≤ 7 := by omega
      clear ho ho3 hpre ho2 hnn
      go_wp2_with (at_builtin; refine wpList_push elem_rows rfl (.tmp 15) (.tmp 24) rfl w.heap.size (v := .slice au mu cu) rfl HPR.out _ rfl rfl (by unfold maxLen; omega) (by omega) hb3.size ?_; intro v6 w6 ho6 hg6 hs6)
      have hb6 : Below w.heap.size w w6 := hb3.grown hg6 hb3.size (fun g hg => (own_block HPR.out hg).1)
      have h6 := HO3.out.pushed hg6 (by rw [HKL.out]; exact ho6) HO2.out
      rw [← HCT.out k hlt] at h6
      have H6 := Lib.hid h6
      clear h6 ho6 hg6 hs6
      go_wp2
      go_roundw
      case rel => exact ⟨k + 1, by omega, by go_num, ⟨_, H6.out⟩, hb6⟩
      case measure => simp [intOf]; omega
    · obtain rfl : k = xss.length := by omega
      go_wp2
      go_ret
      obtain ⟨rs, ho⟩ := HT.out
      rw [List.take_of_length_le (by rw [HCL.out]; omega)] at ho
      exact ⟨_, rs, rfl, ho, hb⟩

theorem cntTo_step {n d : Nat} {ls : List (List (List Int))} (hg : GoodL n d ls) (hn : n ≤ 7) {k : Nat} (hk : k < n) {m : Nat} (hm : m = (ls.getD k []).length) : ((cntTo ls k : Int) * (m : Int) = ((cntTo ls (k + 1) : Nat) : Int)) ∧ cntTo ls (k + 1) ≤ 279936 := by
  refine ⟨?_, hg.cnt7 hn hk⟩
  rw [cntTo_succ, hm]
  simp

theorem l05Count_any (v : Value) (ls : List (List (List Int))) (n d : Nat) (w : World) (h1 : Rows3 w v ls) (hg : GoodL n d ls) (hn : n ≤ 7) :
    Calls Try.prog 73 #[v] w (RetB (.int .i64 (cntOf ls)) w) := by
  obtain ⟨ao, p, o, c, H⟩ := h1.open
  have hv := H.val
  subst hv
  have hll := hg.len
  have A1 := H.adr
  have hm := H.len
  have HROW := Lib.hid H.cell
  have HST := Lib.hid (fun k (hk : k < ls.length) m (hm : m = (ls.getD k []).length) => cntTo_step hg hn (by omega) hm)
  clear h1 H hg hll
  go_enter Try.func73, Try.ntmps73
  go_wp2
  go_loop [3, 4] (fun u i => ∃ k : Nat, k ≤ ls.length ∧ i = .int .i64 k ∧ u = .int .i64 (cntTo ls k)) (fun _ i => ls.length - (intOf i).toNat)
  case atStart => exact ⟨0, Nat.zero_le _, rfl, rfl⟩
  case round =>
    obtain ⟨k, hk, rfl, rfl⟩ := hrel
    by_cases hlt : k < ls.length
    · have i1 := idx_of Try.underlying91 size1_rows (c := c) A1 hlt .i64
      obtain ⟨r1, dr, hr1⟩ := HROW.out k hlt
      obtain ⟨a2, m2, c2, rfl, HM2⟩ := hr1.shape
      obtain ⟨hmul, hle⟩ := HST.out k hlt m2 HM2.out
      generalize cntTo ls k = cc at hmul ⊢
      generalize hcs : cntTo ls (k + 1) = cs at hmul hle
      have HCS := Lib.hid hcs
      clear hcs hr1
      go_wp2
      go_round
      case rel => exact ⟨k + 1, by omega, by go_num, by rw [HCS.out]⟩
      case measure => simp [intOf]; omega
    · obtain rfl : k = ls.length := by omega
      go_wp2
      go_ret
      exact ⟨rfl, Below.refl _ _⟩

end Go.Proofs.Ytlgnbbfhejjodaa
