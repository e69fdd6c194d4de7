/- Whether sets direct: the reference's l04Directed, the program's directs; isKind, l04Kind. -/
import Derived.Test.YtocdkeidjocmkaaDirLaw
import Derived.Test.YtocdkeidjocmkaaBits
import Derived.Test.YtocdkeidjocmkaaTourF
namespace Go.Proofs.Ytocdkeidjocmkaa
set_option linter.unusedVariables false
set_option linter.unusedSimpArgs false
open Go.ChangeShapes Go.WideShapes Go.ChangeAt Go.RowKit

theorem isKind_any (kind : Int) (w : World) : Calls Try.prog 75 #[.int .i64 kind] w fun e w' => e = .returned (.bool (inB kind 1 3)) ∧ w = w' := by
  have HW := Lib.hid (within_any kind 1 3 w)
  go_enter Try.func75, Try.ntmps75
  go_wp2_with fail
  refine HW.out.mono ?_
  rintro e w2 ⟨rfl, rfl⟩
  go_wp2
  go_ret
  exact ⟨rfl, rfl⟩
theorem l04Kind_any (kind : Int) (w : World) : Calls Try.prog 68 #[.int .i64 kind] w fun e w' => e = .returned (.bool (inB kind 1 3)) ∧ w = w' := by
  have HW := Lib.hid (l00In_any kind 1 3 w)
  go_enter Try.func68, Try.ntmps68
  go_wp2_with fail
  refine HW.out.mono ?_
  rintro e w2 ⟨rfl, rfl⟩
  go_wp2
  go_ret
  exact ⟨rfl, rfl⟩

def eqK (l : List Nat) (k : Nat) : Bool := (l.take k).all fun f => f == l.getD 0 0
def meetK (l : List Nat) (k : Nat) : Nat := (l.take k).foldl (fun a f => a &&& f) (l.getD 0 0)
theorem eqK_zero (l : List Nat) : eqK l 0 = true := by simp [eqK]
theorem meetK_zero (l : List Nat) : meetK l 0 = l.getD 0 0 := by simp [meetK]
theorem eqK_succ {l : List Nat} {k : Nat} (h : k < l.length) : eqK l (k + 1) = (eqK l k && (l.getD k 0 == l.getD 0 0)) := by
  unfold eqK
  rw [List.take_succ_eq_append_getElem h, List.all_append]
  simp [List.getD_eq_getElem?_getD, h]
theorem meetK_succ {l : List Nat} {k : Nat} (h : k < l.length) : meetK l (k + 1) = meetK l k &&& l.getD k 0 := by
  unfold meetK
  rw [List.take_succ_eq_append_getElem h, List.foldl_append]
  simp [List.getD_eq_getElem?_getD, h]
theorem eqK_one {l : List Nat} (h : 0 < l.length) : eqK l 1 = true := by rw [eqK_succ h, eqK_zero]; simp
theorem meetK_one {l : List Nat} (h : 0 < l.length) : meetK l 1 = l.getD 0 0 := by rw [meetK_succ h, meetK_zero, Nat.and_self]
theorem meetK_lt {l : List Nat} (h : l.getD 0 0 < 1024) : ∀ k, meetK l k < 1024 := by
  have : ∀ (l : List Nat) a, a < 1024 → l.foldl (fun a f => a &&& f) a < 1024 := by
    intro l
    induction l with
    | nil => intro a ha; exact ha
    | cons f l ih => intro a ha; exact ih _ (Nat.lt_of_le_of_lt Nat.and_le_left ha)
  exact fun k => this _ _ h
theorem dirB_1 (l : List Nat) : dirB 1 l = (eqK l l.length && (l.getD 0 0 != 0 && smallB (l.getD 0 0))) := by simp [dirB, eqK, smallB]
theorem dirB_2 (l : List Nat) : dirB 2 l = eqK l l.length := by simp [dirB, eqK]
theorem dirB_3 (l : List Nat) : dirB 3 l = (meetK l l.length != 0) := by simp [dirB, meetK]

theorem ne_zero_cast (a : Nat) : ((a : Int) != 0) = (a != 0) := by rw [Bool.eq_iff_iff]; simp
theorem eq_cast (a b : Nat) : ((a : Int) == (b : Int)) = (a == b) := by rw [Bool.eq_iff_iff]; simp; omega
theorem kind_cases {kind : Int} (h : inB kind 1 3 = true) : kind = 1 ∨ kind = 2 ∨ kind = 3 := by have := inB_true.1 h; omega

theorem directs_any (b o c : Nat) (l : List Nat) (kind : Int) (w : World) (h0 : 0 < l.length) (hl : l.length ≤ 10) (hc : ∀ k, k < l.length → w.cell? ⟨b, o + k, none⟩ = some (.int .u64 (l.getD k 0 : Nat))) (hlt : ∀ f ∈ l, f < 1024) (hk : inB kind 1 3 = true) :
    Calls Try.prog 76 #[.slice (some ⟨b, o, none⟩) l.length c, .int .i64 kind] w (RetQ (.bool (dirB kind l)) w) := by
  have i0 := idx_at' Try.underlying107 size1_flock (ao := some ⟨b, o, none⟩) (b := b) (o := o) (n := l.length) (c := c) (fun _ => rfl) (k := 0) h0 .i64 0 rfl
  have e0 := hc 0 h0
  rw [Nat.add_zero] at e0 i0
  have hl0 : l.getD 0 0 < 1024 := hlt _ (by rw [List.getD_eq_getElem?_getD, List.getElem?_eq_getElem h0]; exact List.getElem_mem h0)
  have HML := Lib.hid (meetK_lt hl0)
  have HES := Lib.hid (fun k (h : k < l.length) => eqK_succ h)
  have HMS := Lib.hid (fun k (h : k < l.length) => meetK_succ h)
  have HLT := Lib.hid (fun k (h : k < l.length) => hlt (l.getD k 0) (by rw [List.getD_eq_getElem?_getD, List.getElem?_eq_getElem h]; exact List.getElem_mem h))
  have HC := Lib.hid hc
  have HZ1 : Hid (meetK l 0 = l.getD 0 0) := meetK_zero l
  have HZ0 : Hid (eqK l 0 = true) := eqK_zero l
  have HZ3 : Hid (meetK l 1 = l.getD 0 0) := meetK_one h0
  have HZ2 : Hid (eqK l 1 = true) := eqK_one h0
  have HSM := Lib.hid (fun W => isSmall_any (l.getD 0 0) W hl0)
  have HD1 := Lib.hid (dirB_1 l)
  have HD2 := Lib.hid (dirB_2 l)
  have HD3 := Lib.hid (dirB_3 l)
  have HKK := Lib.hid (kind_cases hk)
  have HNZ := Lib.hid (ne_zero_cast (l.getD 0 0))
  have HNM := Lib.hid (fun a => ne_zero_cast a)
  have HEC := Lib.hid (fun a => eq_cast a (l.getD 0 0))
  obtain ⟨z, hz⟩ : ∃ z, z = l.getD 0 0 := ⟨_, rfl⟩
  rw [← hz] at e0 hl0 HES HZ1 HZ3 HSM HD1 HNZ HEC
  clear hz hc hlt hk
  go_enter Try.func76, Try.ntmps76
  go_wp2
  go_quiet (fail)
  go_wp2
  go_loopw [5, 6, 14] (fun q m i wr => ∃ k : Nat, k ≤ l.length ∧ i = .int .i64 k ∧ q = .bool (eqK l k) ∧ m = .int .u64 (meetK l k : Nat) ∧ Qu w wr) (fun _ _ i _ => l.length - (intOf i).toNat)
  case atStart => exact ⟨0, Nat.zero_le _, rfl, by rw [HZ0.out], by rw [HZ1.out], (Qu.refl _).drewN _⟩
  case round =>
    obtain ⟨k, hk, rfl, rfl, rfl, hq⟩ := hrel
    replace e0 := hq.cell e0
    by_cases hlt : k < l.length
    · have i1 := idx_of Try.underlying107 size1_flock (ao := some ⟨b, o, none⟩) (b := b) (o := o) (n := l.length) (c := c) (fun _ => rfl) hlt .i64
      have e1 := hq.cell (HC.out k hlt)
      have HS1 := Lib.hid (HES.out k hlt)
      have HS2 := Lib.hid (HMS.out k hlt)
      have HY := Lib.hid (HLT.out k hlt)
      have HML2 := Lib.hid (HML.out k)
      obtain ⟨y, hy⟩ : ∃ y, y = l.getD k 0 := ⟨_, rfl⟩
      rw [← hy] at e1 HS1 HS2 HY
      obtain ⟨m, hm⟩ : ∃ m, m = meetK l k := ⟨_, rfl⟩
      rw [← hm] at HS2 HML2 ⊢
      have HEY := Lib.hid (HEC.out y)
      clear hy hm
      cases hq1 : eqK l k
      · rw [hq1] at HS1
        clear hq1
        go_wp2
        go_roundw
        case rel => exact ⟨k + 1, by omega, by go_num, by rw [HS1.out]; rfl, by rw [HS2.out, and_u64 (by have := HML2.out; omega) (by have := HY.out; omega)], hq⟩
        case measure => simp [intOf]; omega
      · rw [hq1] at HS1
        clear hq1
        go_wp2
        go_roundw
        case rel => exact ⟨k + 1, by omega, by go_num, by rw [HS1.out]; rw [HEY.out]; rfl, by rw [HS2.out, and_u64 (by have := HML2.out; omega) (by have := HY.out; omega)], hq⟩
        case measure => simp [intOf]; omega
    · obtain rfl : k = l.length := by omega
      obtain ⟨m, hm⟩ : ∃ m, m = meetK l l.length := ⟨_, rfl⟩
      rw [← hm] at HD3 ⊢
      obtain ⟨q, hq1⟩ : ∃ q, q = eqK l l.length := ⟨_, rfl⟩
      rw [← hq1] at HD1 HD2 ⊢
      have HNM2 := Lib.hid (HNM.out m)
      clear hm hq1
      rcases HKK.out with rfl | rfl | rfl
      · cases q
        · go_wp2
          go_ret
          exact ⟨ret_bool (by rw [HD1.out]; rfl), hq⟩
        · by_cases hz0 : z = 0
          · subst hz0
            go_wp2
            go_ret
            exact ⟨ret_bool (by rw [HD1.out]; rfl), hq⟩
          · have hzne : ((z : Int) != 0) = true := by simp; omega
            have HZN : Hid ((z != 0) = true) := by simp [Hid]; omega
            have HZ0' := Lib.hid hz0
            clear hz0
            go_wp2_with fail
            refine (HSM.out _).mono ?_
            rintro e w2 ⟨rfl, rfl⟩
            go_wp2
            go_ret
            exact ⟨ret_bool (by rw [HD1.out, HZN.out]; simp), hq⟩
      · go_wp2
        go_ret
        exact ⟨ret_bool (by rw [HD2.out]), hq⟩
      · go_wp2
        go_ret
        exact ⟨ret_bool (by rw [HD3.out, ← HNM2.out]), hq⟩

theorem l04Directed_any (b o c : Nat) (l : List Nat) (kind : Int) (w : World) (h0 : 0 < l.length) (hl : l.length ≤ 10) (hc : ∀ k, k < l.length → w.cell? ⟨b, o + k, none⟩ = some (.int .i64 (l.getD k 0 : Nat))) (hlt : ∀ f ∈ l, f < 1024) (hk : inB kind 1 3 = true) :
    Calls Try.prog 69 #[.slice (some ⟨b, o, none⟩) l.length c, .int .i64 kind] w (RetQ (.bool (dirB kind l)) w) := by
  have i0 := idx_at' Try.underlying55 size1_int (ao := some ⟨b, o, none⟩) (b := b) (o := o) (n := l.length) (c := c) (fun _ => rfl) (k := 0) h0 .i64 0 rfl
  have e0 := hc 0 h0
  rw [Nat.add_zero] at e0 i0
  have hl0 : l.getD 0 0 < 1024 := hlt _ (by rw [List.getD_eq_getElem?_getD, List.getElem?_eq_getElem h0]; exact List.getElem_mem h0)
  have HML := Lib.hid (meetK_lt hl0)
  have HES := Lib.hid (fun k (h : k < l.length) => eqK_succ h)
  have HMS := Lib.hid (fun k (h : k < l.length) => meetK_succ h)
  have HLT := Lib.hid (fun k (h : k < l.length) => hlt (l.getD k 0) (by rw [List.getD_eq_getElem?_getD, List.getElem?_eq_getElem h]; exact List.getElem_mem h))
  have HC := Lib.hid hc
  have HZ1 : Hid (meetK l 0 = l.getD 0 0) := meetK_zero l
  have HZ0 : Hid (eqK l 0 = true) := eqK_zero l
  have HZ3 : Hid (meetK l 1 = l.getD 0 0) := meetK_one h0
  have HZ2 : Hid (eqK l 1 = true) := eqK_one h0
  have HSM := Lib.hid (small_w64 hl0)
  have HD1 := Lib.hid (dirB_1 l)
  have HD2 := Lib.hid (dirB_2 l)
  have HD3 := Lib.hid (dirB_3 l)
  have HKK := Lib.hid (kind_cases hk)
  have HNZ := Lib.hid (ne_zero_cast (l.getD 0 0))
  have HNM := Lib.hid (fun a => ne_zero_cast a)
  have HEC := Lib.hid (fun a => eq_cast a (l.getD 0 0))
  obtain ⟨z, hz⟩ : ∃ z, z = l.getD 0 0 := ⟨_, rfl⟩
  rw [← hz] at e0 hl0 HES HZ1 HZ3 HSM HD1 HNZ HEC
  clear hz hc hlt hk
  go_enter Try.func69, Try.ntmps69
  go_wp2
  go_loopw [6, 5, 7] (fun q m i wr => ∃ k : Nat, 1 ≤ k ∧ k ≤ l.length ∧ i = .int .i64 k ∧ q = .bool (eqK l k) ∧ m = .int .i64 (meetK l k : Nat) ∧ Qu w wr) (fun _ _ i _ => l.length - (intOf i).toNat)
  case atStart => exact ⟨1, Nat.le_refl _, h0, rfl, by rw [HZ2.out], by rw [HZ3.out], Qu.refl _⟩
  case round =>
    obtain ⟨k, hk1, hk, rfl, rfl, rfl, hq⟩ := hrel
    replace e0 := hq.cell e0
    by_cases hlt : k < l.length
    · have i1 := idx_of Try.underlying55 size1_int (ao := some ⟨b, o, none⟩) (b := b) (o := o) (n := l.length) (c := c) (fun _ => rfl) hlt .i64
      have e1 := hq.cell (HC.out k hlt)
      have HS1 := Lib.hid (HES.out k hlt)
      have HS2 := Lib.hid (HMS.out k hlt)
      have HY := Lib.hid (HLT.out k hlt)
      have HML2 := Lib.hid (HML.out k)
      obtain ⟨y, hy⟩ : ∃ y, y = l.getD k 0 := ⟨_, rfl⟩
      rw [← hy] at e1 HS1 HS2 HY
      obtain ⟨m, hm⟩ : ∃ m, m = meetK l k := ⟨_, rfl⟩
      rw [← hm] at HS2 HML2 ⊢
      have HEY := Lib.hid (HEC.out y)
      clear hy hm
      cases hq1 : eqK l k
      · rw [hq1] at HS1
        clear hq1
        go_wp2
        go_quiet (fail)
        go_wp2
        go_roundw
        case rel => exact ⟨k + 1, by omega, by omega, by go_num, by rw [HS1.out]; rfl, by rw [HS2.out, and_i64 (by have := HML2.out; omega) (by have := HY.out; omega)], hq.drewN _⟩
        case measure => simp [intOf]; omega
      · rw [hq1] at HS1
        clear hq1
        go_wp2
        go_quiet (fail)
        go_wp2
        go_roundw
        case rel => exact ⟨k + 1, by omega, by omega, by go_num, by rw [HS1.out]; rw [HEY.out]; rfl, by rw [HS2.out, and_i64 (by have := HML2.out; omega) (by have := HY.out; omega)], hq.drewN _⟩
        case measure => simp [intOf]; omega
    · obtain rfl : k = l.length := by omega
      obtain ⟨m, hm⟩ : ∃ m, m = meetK l l.length := ⟨_, rfl⟩
      rw [← hm] at HD3 ⊢
      obtain ⟨q, hq1⟩ : ∃ q, q = eqK l l.length := ⟨_, rfl⟩
      rw [← hq1] at HD1 HD2 ⊢
      have HNM2 := Lib.hid (HNM.out m)
      clear hm hq1
      rcases HKK.out with rfl | rfl | rfl
      · cases q
        · go_wp2
          go_quiet (fail)
          go_wp2
          go_ret
          exact ⟨ret_bool (by rw [HD1.out]; rfl), hq.drewN _⟩
        · by_cases hz0 : z = 0
          · subst hz0
            go_wp2
            go_quiet (fail)
            go_wp2
            go_ret
            exact ⟨ret_bool (by rw [HD1.out]; rfl), hq.drewN _⟩
          · have hzne : ((z : Int) != 0) = true := by simp; omega
            have HZN : Hid ((z != 0) = true) := by simp [Hid]; omega
            have hsm := HSM.out
            have hwj := IntWalk.i64_in ((z : Int) - 1) (by omega)
            clear hz0
            go_wp2
            go_quiet (fail)
            go_wp2
            go_ret
            exact ⟨ret_bool (by rw [HD1.out, HZN.out]; simp), hq.drewN _⟩
      · go_wp2
        go_ret
        exact ⟨ret_bool (by rw [HD2.out]), hq⟩
      · go_wp2
        go_ret
        exact ⟨ret_bool (by rw [HD3.out, ← HNM2.out]), hq⟩

end Go.Proofs.Ytocdkeidjocmkaa
