/- Decimals of 0 .. 10 and lines of text, of the reference and of the program. -/
import Derived.Test.YtfdacodbiodiaaaDoorGood
import Derived.Test.YtfdacodbiodiaaaDoorNew
import Derived.Test.YtfdacodbiodiaaaDoorStep
import Derived.Laws.Concat
import Derived.Deep.RegionWith
namespace Go.Proofs.YtfdacodbiodiaaaDoor
set_option linter.unusedVariables false
set_option linter.unusedSimpArgs false
open Go.ChangeShapes Go.WideShapes Go.ChangeAt Go.RowKit

/-- the text of a number from 0 to 10 -/
def dec (z : Int) : ByteArray := if z < 10 then ⟨#[UInt8.ofNat (48 + z.toNat)]⟩ else ⟨#[49, 48]⟩
def spB : ByteArray := ⟨#[32]⟩
def nlB : ByteArray := ⟨#[10]⟩
def numB (w : ByteArray) (zs : List Int) : ByteArray := zs.foldl (fun o z => o ++ (spB ++ dec z)) w
def lineB (w : ByteArray) (zs : List Int) : ByteArray := numB w zs ++ nlB
theorem dec_size (z : Int) : (dec z).size ≤ 2 := by
  unfold dec; split
  · show (1 : Nat) ≤ 2; decide
  · exact Nat.le_refl 2
theorem numB_take (w : ByteArray) (zs : List Int) (k : Nat) (h : k < zs.length) : numB w (zs.take (k + 1)) = numB w (zs.take k) ++ (spB ++ dec (zs.getD k 0)) := by
  unfold numB
  rw [List.take_succ_eq_append_getElem h, List.foldl_append]
  simp [List.getD_eq_getElem?_getD, h]
theorem numB_size (zs : List Int) : ∀ w, (numB w zs).size ≤ w.size + 3 * zs.length := by
  induction zs with
  | nil => intro w; simp [numB]
  | cons z zs ih =>
    intro w
    have h1 := ih (w ++ (spB ++ dec z))
    have h2 := dec_size z
    have e : (w ++ (spB ++ dec z)).size = w.size + (1 + (dec z).size) := by rw [ByteArray.size_append, ByteArray.size_append]; rfl
    have : numB w (z :: zs) = numB (w ++ (spB ++ dec z)) zs := rfl
    rw [this, List.length_cons]
    omega
theorem numB_append (o : ByteArray) (zs : List Int) : ∀ w, numB (o ++ w) zs = o ++ numB w zs := by
  induction zs with
  | nil => intro w; rfl
  | cons z zs ih =>
    intro w
    show numB (o ++ w ++ (spB ++ dec z)) zs = o ++ numB (w ++ (spB ++ dec z)) zs
    rw [ByteArray.append_assoc, ih]
theorem lineB_size (w : ByteArray) (zs : List Int) : (lineB w zs).size ≤ w.size + 3 * zs.length + 1 := by
  have := numB_size zs w
  have e : (lineB w zs).size = (numB w zs).size + 1 := by unfold lineB; rw [ByteArray.size_append]; rfl
  omega

theorem eleven {z : Int} (h0 : 0 ≤ z) (h1 : z ≤ 10) : z = 0 ∨ z = 1 ∨ z = 2 ∨ z = 3 ∨ z = 4 ∨ z = 5 ∨ z = 6 ∨ z = 7 ∨ z = 8 ∨ z = 9 ∨ z = 10 := by omega

set_option maxRecDepth 100000 in
theorem small_any (z : Int) (w : World) (h0 : 0 ≤ z) (h1 : z ≤ 10) : Calls Tryd.prog 107 #[.int .i64 z] w fun e w' => e = .returned (.string (dec z)) ∧ w = w' := by
  rcases eleven h0 h1 with rfl | rfl | rfl | rfl | rfl | rfl | rfl | rfl | rfl | rfl | rfl
  all_goals
    clear h0 h1
    go_enter Tryd.func107, Tryd.ntmps107
    go_wp2
    go_ret
    exact ⟨by kernel_rfl, rfl⟩

theorem formatInner_any (z : Int) (w : World) (h0 : 0 ≤ z) (h1 : z ≤ 10) : Calls Tryd.prog 99 #[.int .i64 z, .int .i64 10] w fun e w' => e = .returned (.string (dec z)) ∧ w = w' := by
  have HS := Lib.hid (small_any z w h0 h1)
  generalize dec z = s at HS ⊢
  go_enter Tryd.func99, Tryd.ntmps99
  go_wp2_with fail
  refine HS.out.mono ?_
  rintro e w2 ⟨rfl, rfl⟩
  go_wp2
  go_ret
  exact ⟨rfl, rfl⟩

theorem decimal_any (z : Int) (w : World) (h0 : 0 ≤ z) (h1 : z ≤ 10) : Calls Tryd.prog 59 #[.int .i64 z] w fun e w' => e = .returned (.string (dec z)) ∧ w = w' := by
  have HS : Hid (Calls Tryd.prog 84 #[.int .i64 z, .int .i64 10] w fun e w' => e = .returned (.string (dec z)) ∧ w = w') := by
    have HF := Lib.hid (formatInner_any z w h0 h1)
    unfold Hid
    generalize dec z = s at HF ⊢
    go_enter Tryd.func84, Tryd.ntmps84
    go_wp2_with fail
    refine HF.out.mono ?_
    rintro e w2 ⟨rfl, rfl⟩
    go_wp2
    go_ret
    exact ⟨rfl, rfl⟩
  generalize dec z = s at HS ⊢
  go_enter Tryd.func59, Tryd.ntmps59
  go_wp2_with fail
  refine HS.out.mono ?_
  rintro e w2 ⟨rfl, rfl⟩
  go_wp2
  go_ret
  exact ⟨rfl, rfl⟩

/-- a byte's block made a string -/
theorem run_byte (W : World) (b : Nat) (u : UInt8) (h : W.cell? ⟨b, 0, none⟩ = some (.int .u8 (u.toNat : Int))) : (convert 98 9 (.slice (some ⟨b, 0, none⟩) 1 1)).run Tryd.prog W = .ok (.string ⟨#[u]⟩) W := by
  have := run_convert_bytes_back (P := Tryd.prog) W 98 9 5 ⟨b, 0, none⟩ 1 [u] Tryd.underlying98 Tryd.underlying5 Tryd.underlying9 (fun j hj => by
    have : j = 0 := by simpa using hj
    subst this
    simpa [Addr.add] using h)
  simpa using this

set_option maxRecDepth 100000 in
theorem decimal1_any (z : Int) (w : World) (h0 : 0 ≤ z) (h1 : z < 10) : Calls Tryd.prog 48 #[.int .i64 z] w (RetB (.string (dec z)) w) := by
  have e : dec z = ⟨#[UInt8.ofNat (48 + z.toNat)]⟩ := by unfold dec; rw [if_pos h1]
  have hu : ((UInt8.ofNat (48 + z.toNat)).toNat : Int) = 48 + z := by
    rw [UInt8.toNat_ofNat']; omega
  have hk := run_byte (w.alloc (.cells #[.int .u8 (48 + z)] 5)) w.heap.size (UInt8.ofNat (48 + z.toNat)) (by rw [hu]; go_simp)
  have hw8 : IntKind.u8.wrap (48 + z) = 48 + z := by rw [IntKind.wrap_u8]; omega
  rw [e]
  generalize UInt8.ofNat (48 + z.toNat) = u at hk ⊢
  clear e hu
  go_enter Tryd.func48, Tryd.ntmps48
  go_wp2
  go_ret
  exact ⟨rfl, below_alloc (Below.refl _ _) _⟩

set_option maxRecDepth 100000 in
theorem specDecimal_any (z : Int) (w : World) (h0 : 0 ≤ z) (h1 : z ≤ 10) : Calls Tryd.prog 48 #[.int .i64 z] w (RetB (.string (dec z)) w) := by
  by_cases h9 : z < 10
  · exact decimal1_any z w h0 h9
  · obtain rfl : z = 10 := by omega
    have HD := Lib.hid (fun W => decimal1_any 1 W (by omega) (by omega))
    have hk : ∀ (W : World) b, W.cell? ⟨b, 0, none⟩ = some (.int .u8 48) → (convert 98 9 (.slice (some ⟨b, 0, none⟩) 1 1)).run Tryd.prog W = .ok (.string ⟨#[48]⟩) W := fun W b h => run_byte W b 48 h
    have e1 : dec 1 = ⟨#[49]⟩ := rfl
    rw [e1] at HD
    rw [show dec 10 = ⟨#[49, 48]⟩ from rfl]
    have k1 : IntKind.i64.wrap 1 = 1 := by decide
    have k2 : IntKind.i64.wrap 48 = 48 := by decide
    have k3 : IntKind.u8.wrap 48 = 48 := by decide
    clear e1 h0 h1 h9
    go_enter Tryd.func48, Tryd.ntmps48
    go_wp2
    go_region_with (first | (go_at_call 48; (with_reducible refine (HD.out _).mono ?_); rintro e w2 ⟨rfl, hb2⟩; obtain ⟨hc2, hf2⟩ := bcell hb2))
    all_goals
      go_wp2
      go_ret
      refine ⟨rfl, ?_⟩
      repeat (first | exact Below.refl _ _ | refine Below.drew ?_ | refine below_alloc ?_ _ | refine below_trans ?_ (by assumption))

set_option maxRecDepth 100000 in
theorem line_any (s : ByteArray) (v : Value) (zs : List Int) (w : World) (h1 : Ints w v zs) (hz : ∀ z ∈ zs, 0 ≤ z ∧ z ≤ 10) (hs : s.size ≤ 1000) (hl : zs.length ≤ 100) :
    Calls Tryd.prog 58 #[.string s, v] w fun e w' => e = .returned (.string (lineB s zs)) ∧ w = w' := by
  obtain ⟨ao1, p1, o1, c1, H1⟩ := h1.open
  have hv := H1.val
  subst hv
  have hm := H1.len
  have HZ := Lib.hid hz
  have HSZ := Lib.hid (fun k => numB_size (zs.take k) s)
  have HTK := Lib.hid (numB_take s zs)
  clear h1 hz
  go_enter Tryd.func58, Tryd.ntmps58
  go_wp2
  go_loop [0, 9] (fun o i => ∃ k : Nat, k ≤ zs.length ∧ i = .int .i64 k ∧ o = .string (numB s (zs.take k))) (fun _ i => zs.length - (intOf i).toNat)
  case atStart => exact ⟨0, Nat.zero_le _, rfl, rfl⟩
  case round =>
    obtain ⟨k, hk, rfl, rfl⟩ := hrel
    have hsz := HSZ.out k
    rw [List.length_take] at hsz
    by_cases hlt : k < zs.length
    · have i1 := idx_of Tryd.underlying45 size1_int (c := c1) H1.adr hlt .i64
      obtain ⟨z, hz, d1⟩ := H1.at hlt
      have hzz := HZ.out z (by rw [← hz]; exact mem_getD hlt)
      have HN := Lib.hid (HTK.out k hlt)
      rw [hz] at HN
      have HD := Lib.hid (fun W => decimal_any z W hzz.1 hzz.2)
      have hds := dec_size z
      generalize dec z = d at HD HN hds
      generalize numB s (zs.take k) = o at HN hsz ⊢
      have hs1 : spB.size = 1 := rfl
      clear hz hzz
      go_wp2_with fail
      refine (HD.out _).mono ?_
      rintro e w2 ⟨rfl, rfl⟩
      go_wp2
      go_round
      case rel => exact ⟨k + 1, by omega, by go_num, by rw [HN.out]; rfl⟩
      case measure => simp [intOf]; omega
    · obtain rfl : k = zs.length := by omega
      rw [List.take_length] at hsz ⊢
      go_wp2
      go_ret
      exact ⟨rfl, rfl⟩

/-- two numbers in a new block -/
theorem ints_pair (w : World) (a b : Int) (e : TypeId) : Ints (w.alloc (.cells #[.int .i64 a, .int .i64 b] e)) (.slice (some ⟨w.heap.size, 0, none⟩) 2 2) [a, b] :=
  ints_of_own (lo := 0) (zs := [a, b]) (World.ownsRow_lit w #[.int .i64 a, .int .i64 b] 2 (Nat.zero_le _) (by unfold maxLen; omega) (by simp))

/-- the lines of rows behind a text -/
def rowsT (o w : ByteArray) (xss : List (List Int)) : ByteArray := xss.foldl (fun o r => o ++ lineB w r) o
theorem rowsT_take (o w : ByteArray) (xss : List (List Int)) (k : Nat) (h : k < xss.length) : rowsT o w (xss.take (k + 1)) = rowsT o w (xss.take k) ++ lineB w (xss.getD k []) := by
  unfold rowsT
  rw [List.take_succ_eq_append_getElem h, List.foldl_append]
  simp [List.getD_eq_getElem?_getD, h]
theorem rowsT_size {n : Nat} (w : ByteArray) (xss : List (List Int)) (hr : ∀ r ∈ xss, r.length ≤ n) : ∀ o, (rowsT o w xss).size ≤ o.size + xss.length * (w.size + 3 * n + 1) := by
  induction xss with
  | nil => intro o; simp [rowsT]
  | cons r xss ih =>
    intro o
    have h1 := ih (fun r hr' => hr r (List.mem_cons_of_mem _ hr')) (o ++ lineB w r)
    have h2 := lineB_size w r
    have h3 := hr r (List.mem_cons_self ..)
    have e : rowsT o w (r :: xss) = rowsT (o ++ lineB w r) w xss := rfl
    rw [e, List.length_cons, Nat.succ_mul]
    rw [ByteArray.size_append] at h1
    omega

end Go.Proofs.YtfdacodbiodiaaaDoor
