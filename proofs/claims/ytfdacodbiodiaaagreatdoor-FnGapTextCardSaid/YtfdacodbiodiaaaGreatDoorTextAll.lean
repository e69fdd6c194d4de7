import Derived.Test.YtfdacodbiodiaaaGreatDoorGood
import Derived.Test.YtfdacodbiodiaaaGreatDoorNew
import Derived.Test.YtfdacodbiodiaaaGreatDoorStep
import Derived.Laws.Concat
import Derived.Deep.RegionWith
import Derived.Test.YtfdacodbiodiaaaGreatDoorSpecOk
import Derived.Test.YtfdacodbiodiaaaGreatDoorValidPart
import Derived.Test.YtfdacodbiodiaaaGreatDoorSpecPart
/- Decimals of 0 .. 10 and lines of text, of the reference and of the program. -/
namespace Go.Proofs.YtfdacodbiodiaaaGreatDoor
set_option linter.unusedVariables false
set_option linter.unusedSimpArgs false
open Go.ChangeShapes Go.WideShapes Go.ChangeAt Go.RowKit

/-- the text of a number from 0 to 10 -/
def dec (z : Int) : ByteArray := if z < 10 then ⟨#[UInt8.ofNat (48 + z.toNat)]⟩ else ⟨#[49, 48]⟩
def spB : ByteArray := ⟨#[32]⟩
def nlB : ByteArray := ⟨#[10]⟩
def numB (w : ByteArray) (zs : List Int) : ByteArray := zs.foldl (fun o z => o ++ (spB ++ dec z)) w
def lineB (w : ByteArray) (zs : List Int) : ByteArray := numB w zs ++ nlB
theorem dec_size (z : Int) : (dec z).size ≤ 2 := by
  unfold dec; split
  · show (1 : Nat) ≤ 2; decide
  · exact Nat.le_refl 2
theorem numB_take (w : ByteArray) (zs : List Int) (k : Nat) (h : k < zs.length) : numB w (zs.take (k + 1)) = numB w (zs.take k) ++ (spB ++ dec (zs.getD k 0)) := by
  unfold numB
  rw [List.take_succ_eq_append_getElem h, List.foldl_append]
  simp [List.getD_eq_getElem?_getD, h]
theorem numB_size (zs : List Int) : ∀ w, (numB w zs).size ≤ w.size + 3 * zs.length := by
  induction zs with
  | nil => intro w; simp [numB]
  | cons z zs ih =>
    intro w
    have h1 := ih (w ++ (spB ++ dec z))
    have h2 := dec_size z
    have e : (w ++ (spB ++ dec z)).size = w.size + (1 + (dec z).size) := by rw [ByteArray.size_append, ByteArray.size_append]; rfl
    have : numB w (z :: zs) = numB (w ++ (spB ++ dec z)) zs := rfl
    rw [this, List.length_cons]
    omega
theorem numB_append (o : ByteArray) (zs : List Int) : ∀ w, numB (o ++ w) zs = o ++ numB w zs := by
  induction zs with
  | nil => intro w; rfl
  | cons z zs ih =>
    intro w
    show numB (o ++ w ++ (spB ++ dec z)) zs = o ++ numB (w ++ (spB ++ dec z)) zs
    rw [ByteArray.append_assoc, ih]
theorem lineB_size (w : ByteArray) (zs : List Int) : (lineB w zs).size ≤ w.size + 3 * zs.length + 1 := by
  have := numB_size zs w
  have e : (lineB w zs).size = (numB w zs).size + 1 := by unfold lineB; rw [ByteArray.size_append]; rfl
  omega

theorem eleven {z : Int} (h0 : 0 ≤ z) (h1 : z ≤ 10) : z = 0 ∨ z = 1 ∨ z = 2 ∨ z = 3 ∨ z = 4 ∨ z = 5 ∨ z = 6 ∨ z = 7 ∨ z = 8 ∨ z = 9 ∨ z = 10 := by omega

set_option maxRecDepth 100000 in
theorem small_any (z : Int) (w : World) (h0 : 0 ≤ z) (h1 : z ≤ 10) : Calls Tryz.prog 88 #[.int .i64 z] w fun e w' => e = .returned (.string (dec z)) ∧ w = w' := by
  rcases eleven h0 h1 with rfl | rfl | rfl | rfl | rfl | rfl | rfl | rfl | rfl | rfl | rfl
  all_goals
    clear h0 h1
    go_enter Tryz.func88, Tryz.ntmps88
    go_wp2
    go_ret
    exact ⟨by kernel_rfl, rfl⟩

theorem formatInner_any (z : Int) (w : World) (h0 : 0 ≤ z) (h1 : z ≤ 10) : Calls Tryz.prog 75 #[.int .i64 z, .int .i64 10] w fun e w' => e = .returned (.string (dec z)) ∧ w = w' := by
  have HS := Lib.hid (small_any z w h0 h1)
  generalize dec z = s at HS ⊢
  go_enter Tryz.func75, Tryz.ntmps75
  go_wp2_with fail
  refine HS.out.mono ?_
  rintro e w2 ⟨rfl, rfl⟩
  go_wp2
  go_ret
  exact ⟨rfl, rfl⟩

theorem decimal_any (z : Int) (w : World) (h0 : 0 ≤ z) (h1 : z ≤ 10) : Calls Tryz.prog 27 #[.int .i64 z] w fun e w' => e = .returned (.string (dec z)) ∧ w = w' := by
  have HS : Hid (Calls Tryz.prog 56 #[.int .i64 z, .int .i64 10] w fun e w' => e = .returned (.string (dec z)) ∧ w = w') := by
    have HF := Lib.hid (formatInner_any z w h0 h1)
    unfold Hid
    generalize dec z = s at HF ⊢
    go_enter Tryz.func56, Tryz.ntmps56
    go_wp2_with fail
    refine HF.out.mono ?_
    rintro e w2 ⟨rfl, rfl⟩
    go_wp2
    go_ret
    exact ⟨rfl, rfl⟩
  generalize dec z = s at HS ⊢
  go_enter Tryz.func27, Tryz.ntmps27
  go_wp2_with fail
  refine HS.out.mono ?_
  rintro e w2 ⟨rfl, rfl⟩
  go_wp2
  go_ret
  exact ⟨rfl, rfl⟩

/-- a byte's block made a string -/
theorem run_byte (W : World) (b : Nat) (u : UInt8) (h : W.cell? ⟨b, 0, none⟩ = some (.int .u8 (u.toNat : Int))) : (convert 22 9 (.slice (some ⟨b, 0, none⟩) 1 1)).run Tryz.prog W = .ok (.string ⟨#[u]⟩) W := by
  have := run_convert_bytes_back (P := Tryz.prog) W 22 9 5 ⟨b, 0, none⟩ 1 [u] Tryz.underlying22 Tryz.underlying5 Tryz.underlying9 (fun j hj => by
    have : j = 0 := by simpa using hj
    subst this
    simpa [Addr.add] using h)
  simpa using this



set_option maxRecDepth 100000 in
theorem line_any (s : ByteArray) (v : Value) (zs : List Int) (w : World) (h1 : Ints w v zs) (hz : ∀ z ∈ zs, 0 ≤ z ∧ z ≤ 10) (hs : s.size ≤ 1000) (hl : zs.length ≤ 100) :
    Calls Tryz.prog 25 #[.string s, v] w fun e w' => e = .returned (.string (lineB s zs)) ∧ w = w' := by
  obtain ⟨ao1, p1, o1, c1, H1⟩ := h1.open
  have hv := H1.val
  subst hv
  have hm := H1.len
  have HZ := Lib.hid hz
  have HSZ := Lib.hid (fun k => numB_size (zs.take k) s)
  have HTK := Lib.hid (numB_take s zs)
  clear h1 hz
  go_enter Tryz.func25, Tryz.ntmps25
  go_wp2
  go_loop [0, 9] (fun o i => ∃ k : Nat, k ≤ zs.length ∧ i = .int .i64 k ∧ o = .string (numB s (zs.take k))) (fun _ i => zs.length - (intOf i).toNat)
  case atStart => exact ⟨0, Nat.zero_le _, rfl, rfl⟩
  case round =>
    obtain ⟨k, hk, rfl, rfl⟩ := hrel
    have hsz := HSZ.out k
    rw [List.length_take] at hsz
    by_cases hlt : k < zs.length
    · have i1 := idx_of Tryz.underlying45 size1_int (c := c1) H1.adr hlt .i64
      obtain ⟨z, hz, d1⟩ := H1.at hlt
      have hzz := HZ.out z (by rw [← hz]; exact mem_getD hlt)
      have HN := Lib.hid (HTK.out k hlt)
      rw [hz] at HN
      have HD := Lib.hid (fun W => decimal_any z W hzz.1 hzz.2)
      have hds := dec_size z
      generalize dec z = d at HD HN hds
      generalize numB s (zs.take k) = o at HN hsz ⊢
      have hs1 : spB.size = 1 := rfl
      clear hz hzz
      go_wp2_with fail
      refine (HD.out _).mono ?_
      rintro e w2 ⟨rfl, rfl⟩
      go_wp2
      go_round
      case rel => exact ⟨k + 1, by omega, by go_num, by rw [HN.out]; rfl⟩
      case measure => simp [intOf]; omega
    · obtain rfl : k = zs.length := by omega
      rw [List.take_length] at hsz ⊢
      go_wp2
      go_ret
      exact ⟨rfl, rfl⟩

/-- two numbers in a new block -/
theorem ints_pair (w : World) (a b : Int) (e : TypeId) : Ints (w.alloc (.cells #[.int .i64 a, .int .i64 b] e)) (.slice (some ⟨w.heap.size, 0, none⟩) 2 2) [a, b] :=
  ints_of_own (lo := 0) (zs := [a, b]) (World.ownsRow_lit w #[.int .i64 a, .int .i64 b] 2 (Nat.zero_le _) (by unfold maxLen; omega) (by simp))

/-- the lines of rows behind a text -/
def rowsT (o w : ByteArray) (xss : List (List Int)) : ByteArray := xss.foldl (fun o r => o ++ lineB w r) o
theorem rowsT_take (o w : ByteArray) (xss : List (List Int)) (k : Nat) (h : k < xss.length) : rowsT o w (xss.take (k + 1)) = rowsT o w (xss.take k) ++ lineB w (xss.getD k []) := by
  unfold rowsT
  rw [List.take_succ_eq_append_getElem h, List.foldl_append]
  simp [List.getD_eq_getElem?_getD, h]
theorem rowsT_size {n : Nat} (w : ByteArray) (xss : List (List Int)) (hr : ∀ r ∈ xss, r.length ≤ n) : ∀ o, (rowsT o w xss).size ≤ o.size + xss.length * (w.size + 3 * n + 1) := by
  induction xss with
  | nil => intro o; simp [rowsT]
  | cons r xss ih =>
    intro o
    have h1 := ih (fun r hr' => hr r (List.mem_cons_of_mem _ hr')) (o ++ lineB w r)
    have h2 := lineB_size w r
    have h3 := hr r (List.mem_cons_self ..)
    have e : rowsT o w (r :: xss) = rowsT (o ++ lineB w r) w xss := rfl
    rw [e, List.length_cons, Nat.succ_mul]
    rw [ByteArray.size_append] at h1
    omega

end Go.Proofs.YtfdacodbiodiaaaGreatDoor

/- AutomatonText, of the reference and of the program. -/
namespace Go.Proofs.YtfdacodbiodiaaaGreatDoor
set_option linter.unusedVariables false
set_option linter.unusedSimpArgs false
open Go.ChangeShapes Go.WideShapes Go.ChangeAt Go.RowKit

def autoW : ByteArray := ⟨#[97, 117, 116, 111, 109, 97, 116, 111, 110]⟩
def letterW : ByteArray := ⟨#[108, 101, 116, 116, 101, 114]⟩
def autoTx (st : Int) (xss : List (List Int)) : ByteArray := if validB st xss = true then rowsT (lineB autoW [st, xss.length]) letterW xss else ⟨#[]⟩
theorem Good.small {st : Int} {n : Nat} {xss : List (List Int)} (h : Good st n xss) {k : Nat} (hk : k < xss.length) : ∀ z ∈ xss.getD k [], 0 ≤ z ∧ z ≤ 10 := fun z hz => by
  have := (h.rows.row hk).2 z hz
  have := h.hi
  omega



end Go.Proofs.YtfdacodbiodiaaaGreatDoor

/- PartialText, of the reference and of the program. -/
namespace Go.Proofs.YtfdacodbiodiaaaGreatDoor
set_option linter.unusedVariables false
set_option linter.unusedSimpArgs false
open Go.ChangeShapes Go.WideShapes Go.ChangeAt Go.RowKit

def partW : ByteArray := ⟨#[112, 97, 114, 116, 105, 97, 108]⟩
def celP (z : Int) : ByteArray := if z < 0 then ⟨#[32, 46]⟩ else spB ++ dec z
theorem celP_size (z : Int) : (celP z).size ≤ 3 := by
  unfold celP; split
  · show (2 : Nat) ≤ 3; decide
  · rw [ByteArray.size_append]; have := dec_size z; show 1 + (dec z).size ≤ 3; omega
theorem celP_neg {z : Int} (h : z < 0) : celP z = ⟨#[32, 46]⟩ := by unfold celP; rw [if_pos h]
theorem celP_pos {z : Int} (h : ¬ z < 0) : celP z = spB ++ dec z := by unfold celP; rw [if_neg h]
def numP (w : ByteArray) (zs : List Int) : ByteArray := zs.foldl (fun o z => o ++ celP z) w
def lineP (w : ByteArray) (zs : List Int) : ByteArray := numP w zs ++ nlB
theorem numP_take (w : ByteArray) (zs : List Int) (k : Nat) (h : k < zs.length) : numP w (zs.take (k + 1)) = numP w (zs.take k) ++ celP (zs.getD k 0) := by
  unfold numP
  rw [List.take_succ_eq_append_getElem h, List.foldl_append]
  simp [List.getD_eq_getElem?_getD, h]
theorem numP_size (zs : List Int) : ∀ w, (numP w zs).size ≤ w.size + 3 * zs.length := by
  induction zs with
  | nil => intro w; simp [numP]
  | cons z zs ih =>
    intro w
    have h1 := ih (w ++ celP z)
    have h2 := celP_size z
    have e : (w ++ celP z).size = w.size + (celP z).size := by rw [ByteArray.size_append]
    have : numP w (z :: zs) = numP (w ++ celP z) zs := rfl
    rw [this, List.length_cons]
    omega
theorem numP_append (o : ByteArray) (zs : List Int) : ∀ w, numP (o ++ w) zs = o ++ numP w zs := by
  induction zs with
  | nil => intro w; rfl
  | cons z zs ih =>
    intro w
    show numP (o ++ w ++ celP z) zs = o ++ numP (w ++ celP z) zs
    rw [ByteArray.append_assoc, ih]
theorem lineP_size (w : ByteArray) (zs : List Int) : (lineP w zs).size ≤ w.size + 3 * zs.length + 1 := by
  have := numP_size zs w
  have e : (lineP w zs).size = (numP w zs).size + 1 := by unfold lineP; rw [ByteArray.size_append]; rfl
  omega

/-- the lines of rows behind a text -/
def rowsU (o w : ByteArray) (xss : List (List Int)) : ByteArray := xss.foldl (fun o r => o ++ lineP w r) o
theorem rowsU_take (o w : ByteArray) (xss : List (List Int)) (k : Nat) (h : k < xss.length) : rowsU o w (xss.take (k + 1)) = rowsU o w (xss.take k) ++ lineP w (xss.getD k []) := by
  unfold rowsU
  rw [List.take_succ_eq_append_getElem h, List.foldl_append]
  simp [List.getD_eq_getElem?_getD, h]
theorem rowsU_size {n : Nat} (w : ByteArray) (xss : List (List Int)) (hr : ∀ r ∈ xss, r.length ≤ n) : ∀ o, (rowsU o w xss).size ≤ o.size + xss.length * (w.size + 3 * n + 1) := by
  induction xss with
  | nil => intro o; simp [rowsU]
  | cons r xss ih =>
    intro o
    have h1 := ih (fun r hr' => hr r (List.mem_cons_of_mem _ hr')) (o ++ lineP w r)
    have h2 := lineP_size w r
    have h3 := hr r (List.mem_cons_self ..)
    have e : rowsU o w (r :: xss) = rowsU (o ++ lineP w r) w xss := rfl
    rw [e, List.length_cons, Nat.succ_mul]
    rw [ByteArray.size_append] at h1
    omega

structure GoodPT (st : Int) (n : Nat) (xss : List (List Int)) : Prop where
  st : st = n
  lo : 1 ≤ n
  hi : n ≤ 10
  len1 : 1 ≤ xss.length
  len3 : xss.length ≤ 3
  rows : ∀ r ∈ xss, r.length = n ∧ ∀ z ∈ r, -1 ≤ z ∧ z < n
theorem goodPT_of {st : Int} {xss : List (List Int)} (h : validP st xss = true) : ∃ n : Nat, GoodPT st n xss := by
  unfold validP at h
  rw [Bool.and_eq_true, Bool.and_eq_true] at h
  obtain ⟨h1, h2, h3⟩ := h
  have h1' := inB_true.1 h1
  have h2' := inB_true.1 h2
  refine ⟨st.toNat, by omega, by omega, by omega, by omega, by omega, fun r hr => ?_⟩
  unfold rowsP at h3
  have := List.all_eq_true.1 h3 r hr
  rw [Bool.and_eq_true] at this
  obtain ⟨a, b⟩ := this
  have a' := of_decide_eq_true a
  refine ⟨by omega, fun z hz => ?_⟩
  have := allIn_iff.1 b z hz
  omega
theorem GoodPT.row {st : Int} {n : Nat} {xss : List (List Int)} (h : GoodPT st n xss) {x : Nat} (hx : x < xss.length) : (xss.getD x []).length = n := (h.rows _ (getD_mem hx _)).1
theorem GoodPT.val {st : Int} {n : Nat} {xss : List (List Int)} (h : GoodPT st n xss) {x s : Nat} (hx : x < xss.length) (hs : s < n) : -1 ≤ (xss.getD x []).getD s 0 ∧ (xss.getD x []).getD s 0 < n :=
  (h.rows _ (getD_mem hx _)).2 _ (getD_mem (by rw [h.row hx]; exact hs) _)

def partTx (st : Int) (xss : List (List Int)) : ByteArray := if validP st xss = true then rowsU (lineB partW [st, xss.length]) letterW xss else ⟨#[]⟩

set_option maxRecDepth 100000 in
set_option maxHeartbeats 1000000 in
theorem implPartText_any (st : Int) (v : Value) (xss : List (List Int)) (w : World) (h1 : Rows2 w v xss) :
    Calls Tryz.prog 8 #[.agg #[.int .i64 st, v]] w (RetB (.string (partTx st xss)) w) := by
  obtain ⟨ao1, p1, o1, c1, H1⟩ := h1.open
  have hv1 := H1.val
  subst hv1
  have hm := H1.len
  obtain ⟨W1, hW1⟩ : ∃ W1, W1 = w.alloc (.cells #[.int .i64 st, .slice ao1 xss.length c1] 26) := ⟨_, rfl⟩
  have bx : Below w.heap.size w W1 := by rw [hW1]; exact below_alloc (Below.refl _ _) _
  have p0 : W1.cell? ⟨w.heap.size, 0, none⟩ = some (.int .i64 st) := by rw [hW1]; go_simp
  have p1' : W1.cell? ⟨w.heap.size, 1, none⟩ = some (.slice ao1 xss.length c1) := by rw [hW1]; go_simp
  have HOK := Lib.hid (validPart_any st _ xss W1 (h1.kept bx))
  cases hv : validP st xss
  · rw [show partTx st xss = ⟨#[]⟩ by simp [partTx, hv]]
    rw [hv] at HOK
    subst hW1
    clear hv h1 H1
    go_enter Tryz.func8, Tryz.ntmps8
    go_wp2_with fail
    refine HOK.out.mono ?_
    rintro e w2 ⟨rfl, hb⟩
    go_wp2
    go_ret
    exact ⟨rfl, below_trans bx hb⟩
  · obtain ⟨n, hg⟩ := goodPT_of hv
    rw [hv] at HOK
    have hst := hg.st
    have hlo := hg.lo
    have hhi := hg.hi
    have hl1 := hg.len1
    have hl3 := hg.len3
    have HLE := Lib.hid (fun W => lettersPart_any st ao1 xss.length c1 W hm)
    have HHD := Lib.hid (fun W v (hi : Ints W v [st, (xss.length : Int)]) => line_any partW v [st, (xss.length : Int)] W hi (by intro z hz; simp at hz; rcases hz with rfl | rfl <;> omega) (by decide) (by simp))
    have HDZ := Lib.hid (fun k (hk : k < xss.length) j (hj : j < n) W (h0 : ¬ (xss.getD k []).getD j 0 < 0) => decimal_any ((xss.getD k []).getD j 0) W (by omega) (by have := (hg.val hk hj).2; omega))
    have HRL := Lib.hid (fun k (hk : k < xss.length) => hg.row hk)
    have HTX : Hid (partTx st xss = rowsU (lineB partW [st, xss.length]) letterW xss) := by unfold Hid partTx; rw [if_pos hv]
    have hh0 := lineB_size partW [st, (xss.length : Int)]
    have hh : (lineB partW [st, (xss.length : Int)]).size ≤ 20 := Nat.le_trans hh0 (by show 7 + 3 * 2 + 1 ≤ 20; omega)
    have HSZ := Lib.hid (fun k => rowsU_size (n := 10) letterW (xss.take k) (fun r hr => by have := (hg.rows r (List.mem_of_mem_take hr)).1; omega) (lineB partW [st, (xss.length : Int)]))
    have HTK := Lib.hid (rowsU_take (lineB partW [st, (xss.length : Int)]) letterW xss)
    have HLS := Lib.hid (fun k (hk : k < xss.length) => (show (lineP letterW (xss.getD k [])).size ≤ 100 from Nat.le_trans (lineP_size _ _) (by rw [hg.row hk]; show 6 + 3 * n + 1 ≤ 100; omega)))
    generalize lineB partW [st, (xss.length : Int)] = hd at HHD HTX HSZ HTK hh
    subst hW1
    clear hv hg h1 hh0 hst
    go_enter Tryz.func8, Tryz.ntmps8
    go_wp2_with fail
    refine HOK.out.mono ?_
    rintro e w2 ⟨rfl, hb⟩
    replace p0 := below_cell hb p0
    replace p1' := below_cell hb p1'
    have bw2 := below_trans bx hb
    have z0 := block_lt_of_cell p0
    clear hb
    go_wp2
    go_region_held3 (fun w' => Below w2.heap.size w2 w' ∧ ∀ b o, b < w2.heap.size → w'.cell? ⟨b, o, none⟩ = w2.cell? ⟨b, o, none⟩) (first | exact held_start | assumption | exact held_nx (by assumption) (by assumption) | exact held_alloc (by assumption))
      (first
        | (go_simp; go_at_call 26; refine (HLE.out _).mono ?_; rintro e w3 ⟨rfl, hb3⟩)
        | (go_simp; go_at_call 25; refine (HHD.out _ _ (ints_pair _ _ _ _)).mono ?_; rintro e w4 ⟨rfl, rfl⟩))
    all_goals
      rename Below w2.heap.size w2 _ ∧ _ => hS
      obtain ⟨hw4, hcs⟩ := hS
      have q1 := below_cell hw4 p1'
      have bw4 := below_trans bw2 hw4
      clear hcs
      go_wp2
      go_loop [3, 20] (fun o i => ∃ k : Nat, k ≤ xss.length ∧ i = .int .i64 k ∧ o = .string (rowsU hd letterW (xss.take k))) (fun _ i => xss.length - (intOf i).toNat)
      case atStart => exact ⟨0, Nat.zero_le _, rfl, rfl⟩
      case round =>
        obtain ⟨k, hk, rfl, rfl⟩ := hrel
        have hsz := HSZ.out k
        have hlt4 : (xss.take k).length ≤ 3 := by rw [List.length_take]; omega
        have hs6 : letterW.size = 6 := rfl
        have hsz2 : (rowsU hd letterW (xss.take k)).size ≤ 1000 := by
          have := Nat.mul_le_mul_right (letterW.size + 3 * 10 + 1) hlt4
          rw [hs6] at this hsz
          omega
        clear hsz hlt4
        by_cases hlt : k < xss.length
        · have i1 := idx_of Tryz.underlying24 size1_ints (c := c1) H1.adr hlt .i64
          obtain ⟨r1, d2, hr1⟩ := H1.cell k hlt
          have e2 := below_cell bw4 d2
          obtain ⟨ao2, p2, o2, c2, H2⟩ := hr1.open
          have hv2 := H2.val
          subst hv2
          have hm2 := H2.len
          have hrl := HRL.out k hlt
          have A2 := H2.adr
          rw [hrl] at A2 e2 hm2
          have HRL2 := Lib.hid hrl
          have HN := Lib.hid (HTK.out k hlt)
          have HNT := Lib.hid (fun (o : ByteArray) j (hj : j < n) => numP_take (o ++ letterW) (xss.getD k []) j (by rw [hrl]; exact hj))
          have HNS := Lib.hid (fun (o : ByteArray) j => numP_size ((xss.getD k []).take j) (o ++ letterW))
          have HAP := Lib.hid (fun (o : ByteArray) => numP_append o (xss.getD k []) letterW)
          have HDK := Lib.hid (HDZ.out k hlt)
          have HDS := Lib.hid (fun j => dec_size ((xss.getD k []).getD j 0))
          have HLB : Hid (lineP letterW (xss.getD k []) = numP letterW (xss.getD k []) ++ nlB) := rfl
          generalize rowsU hd letterW (xss.take k) = o at HN hsz2 ⊢
          clear hr1 hrl d2
          go_wp2
          go_loop [3, 28] (fun u i => ∃ j : Nat, j ≤ n ∧ i = .int .i64 j ∧ u = .string (numP (o ++ letterW) ((xss.getD k []).take j))) (fun _ i => n - (intOf i).toNat)
          case atStart => exact ⟨0, Nat.zero_le _, rfl, rfl⟩
          case round =>
            obtain ⟨j, hj, rfl, rfl⟩ := hrel
            have hns := HNS.out o j
            have hns2 : (numP (o ++ letterW) ((xss.getD k []).take j)).size ≤ 2000 := by
              rw [ByteArray.size_append, List.length_take, hs6] at hns
              omega
            by_cases hlt2 : j < n
            · have i2 := idx_of Tryz.underlying45 size1_int (c := c2) A2 hlt2 .i64
              have f3 := below_cell bw4 (H2.cell j (by rw [HRL2.out]; exact hlt2))
              have HDJ := Lib.hid (HDK.out j hlt2)
              have hdj := HDS.out j
              have HNJ := Lib.hid (HNT.out o j hlt2)
              obtain ⟨z, hz⟩ : ∃ z, z = (xss.getD k []).getD j 0 := ⟨_, rfl⟩
              rw [← hz] at f3 HDJ hdj HNJ
              clear hz hns
              by_cases hz0 : z < 0
              · have HNC : Hid (numP (o ++ letterW) ((xss.getD k []).take (j + 1)) = numP (o ++ letterW) ((xss.getD k []).take j) ++ ⟨#[32, 46]⟩) := by unfold Hid; rw [HNJ.out, celP_neg hz0]
                generalize numP (o ++ letterW) ((xss.getD k []).take j) = u at HNC hns2 ⊢
                go_wp2
                go_round
                case rel => exact ⟨j + 1, by omega, by go_num, by rw [HNC.out]⟩
                case measure => simp [intOf]; omega
              · have HNC : Hid (numP (o ++ letterW) ((xss.getD k []).take (j + 1)) = numP (o ++ letterW) ((xss.getD k []).take j) ++ (spB ++ dec z)) := by unfold Hid; rw [HNJ.out, celP_pos hz0]
                have HDD := Lib.hid (fun W => HDJ.out W (by omega))
                have hs1 : spB.size = 1 := rfl
                generalize dec z = d at HDD hdj HNC
                generalize numP (o ++ letterW) ((xss.getD k []).take j) = u at HNC hns2 ⊢
                go_wp2_with fail
                refine (HDD.out _).mono ?_
                rintro e w5 ⟨rfl, rfl⟩
                go_wp2
                go_round
                case rel => exact ⟨j + 1, by omega, by go_num, by rw [HNC.out]; rfl⟩
                case measure => simp [intOf]; omega
            · obtain rfl : j = n := by omega
              have hu : numP (o ++ letterW) ((xss.getD k []).take j) = o ++ numP letterW (xss.getD k []) := by rw [List.take_of_length_le (by rw [HRL2.out]; exact Nat.le_refl _), HAP.out]
              rw [hu] at hns2 ⊢
              have HFIN : Hid (rowsU hd letterW (xss.take (k + 1)) = o ++ numP letterW (xss.getD k []) ++ nlB) := by unfold Hid; rw [HN.out, HLB.out, ByteArray.append_assoc]
              generalize o ++ numP letterW (xss.getD k []) = u at HFIN hns2 ⊢
              clear hu hns
              go_wp2
              go_round
              case rel => exact ⟨k + 1, by omega, by go_num, by rw [HFIN.out]; rfl⟩
              case measure => simp [intOf]; omega
        · obtain rfl : k = xss.length := by omega
          rw [List.take_length]
          go_wp2
          go_ret
          exact ⟨by rw [HTX.out]; rfl, bw4⟩



end Go.Proofs.YtfdacodbiodiaaaGreatDoor
