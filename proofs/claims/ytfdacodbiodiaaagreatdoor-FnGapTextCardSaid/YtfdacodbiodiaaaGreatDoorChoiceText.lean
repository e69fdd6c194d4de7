/- ChoiceText, of the reference and of the program. -/
import Derived.Test.YtfdacodbiodiaaaGreatDoorTextAll
import Derived.Test.YtfdacodbiodiaaaGreatDoorValidCho
import Derived.Test.YtfdacodbiodiaaaGreatDoorJoin
namespace Go.Proofs.YtfdacodbiodiaaaGreatDoor
set_option linter.unusedVariables false
set_option linter.unusedSimpArgs false
open Go.ChangeShapes Go.WideShapes Go.ChangeAt Go.RowKit

def choiceW : ByteArray := ⟨#[99, 104, 111, 105, 99, 101]⟩
def letterC : ByteArray := ⟨#[108, 101, 116, 116, 101, 114]⟩
/-- numbers with commas between them -/
def jn (zs : List Int) : ByteArray := ⟨(Lib.join ((zs.map dec).map (·.data.toList)) [44]).toArray⟩
def celC (zs : List Int) : ByteArray := if zs.length = 0 then ⟨#[46]⟩ else jn zs
theorem join_snoc (xs : List (List UInt8)) (h : xs ≠ []) (y sep : List UInt8) : Lib.join (xs ++ [y]) sep = Lib.join xs sep ++ sep ++ y := by
  cases xs with
  | nil => exact absurd rfl h
  | cons x r => rw [List.cons_append, Lib.join_cons, Lib.join_cons]; simp [Lib.joinTail, List.append_assoc]
theorem jn_one (z : Int) : jn [z] = dec z := by
  unfold jn
  simp only [List.map_cons, List.map_nil, Lib.join_one]
theorem jn_take {zs : List Int} {k : Nat} (h : k < zs.length) (h0 : 0 < k) : jn (zs.take (k + 1)) = jn (zs.take k) ++ ⟨#[44]⟩ ++ dec (zs.getD k 0) := by
  unfold jn
  have e : zs.take (k + 1) = zs.take k ++ [zs.getD k 0] := by rw [List.take_succ_eq_append_getElem h]; simp [List.getD_eq_getElem?_getD, h]
  rw [e, List.map_append, List.map_append, List.map_cons, List.map_cons, List.map_nil, List.map_nil, join_snoc _ (by intro hh; have h2 := congrArg List.length hh; rw [List.length_map, List.length_map, List.length_take, List.length_nil] at h2; omega)]
  apply ByteArray.ext
  simp [ByteArray.data_append]
theorem jn_take1 {zs : List Int} (h : 0 < zs.length) : jn (zs.take 1) = dec (zs.getD 0 0) := by
  have e : zs.take 1 = [zs.getD 0 0] := by
    cases zs with
    | nil => simp at h
    | cons z r => simp
  rw [e, jn_one]
theorem jn_size (zs : List Int) : ∀ k, k ≤ zs.length → (jn (zs.take k)).size ≤ 3 * k := by
  intro k
  induction k with
  | zero => intro _; simp [jn, Lib.join_nil]; rfl
  | succ k ih =>
    intro hk
    have h1 := ih (by omega)
    rcases Nat.eq_zero_or_pos k with rfl | h0
    · rw [jn_take1 (by omega)]; have := dec_size (zs.getD 0 0); omega
    · rw [jn_take (by omega) h0, ByteArray.size_append, ByteArray.size_append]
      have := dec_size (zs.getD k 0)
      have : (⟨#[44]⟩ : ByteArray).size = 1 := rfl
      omega
theorem celC_size (zs : List Int) : (celC zs).size ≤ 3 * zs.length + 1 := by
  unfold celC
  split
  · show 1 ≤ _; omega
  · have := jn_size zs zs.length (Nat.le_refl _); rw [List.take_length] at this; omega

def numC (w : ByteArray) (zss : List (List Int)) : ByteArray := zss.foldl (fun o z => o ++ (spB ++ celC z)) w
def lineC (w : ByteArray) (zss : List (List Int)) : ByteArray := numC w zss ++ nlB
theorem numC_take (w : ByteArray) (zs : List (List Int)) (k : Nat) (h : k < zs.length) : numC w (zs.take (k + 1)) = numC w (zs.take k) ++ (spB ++ celC (zs.getD k [])) := by
  unfold numC
  rw [List.take_succ_eq_append_getElem h, List.foldl_append]
  simp [List.getD_eq_getElem?_getD, h]
theorem numC_size {m : Nat} (zs : List (List Int)) (hm : ∀ z ∈ zs, z.length ≤ m) : ∀ w, (numC w zs).size ≤ w.size + zs.length * (3 * m + 2) := by
  induction zs with
  | nil => intro w; simp [numC]
  | cons z zs ih =>
    intro w
    have h1 := ih (fun z' hz' => hm z' (List.mem_cons_of_mem _ hz')) (w ++ (spB ++ celC z))
    have h2 := celC_size z
    have h3 := hm z (List.mem_cons_self ..)
    have e : (w ++ (spB ++ celC z)).size = w.size + (1 + (celC z).size) := by rw [ByteArray.size_append, ByteArray.size_append]; rfl
    have : numC w (z :: zs) = numC (w ++ (spB ++ celC z)) zs := rfl
    rw [this, List.length_cons, Nat.succ_mul]
    omega
theorem numC_append (o : ByteArray) (zs : List (List Int)) : ∀ w, numC (o ++ w) zs = o ++ numC w zs := by
  induction zs with
  | nil => intro w; rfl
  | cons z zs ih =>
    intro w
    show numC (o ++ w ++ (spB ++ celC z)) zs = o ++ numC (w ++ (spB ++ celC z)) zs
    rw [ByteArray.append_assoc, ih]
def rowsC' (o w : ByteArray) (xss : List (List (List Int))) : ByteArray := xss.foldl (fun o r => o ++ lineC w r) o
theorem rowsC'_take (o w : ByteArray) (xss : List (List (List Int))) (k : Nat) (h : k < xss.length) : rowsC' o w (xss.take (k + 1)) = rowsC' o w (xss.take k) ++ lineC w (xss.getD k []) := by
  unfold rowsC'
  rw [List.take_succ_eq_append_getElem h, List.foldl_append]
  simp [List.getD_eq_getElem?_getD, h]
theorem rowsC'_size {B : Nat} (w : ByteArray) (xss : List (List (List Int))) (hr : ∀ r ∈ xss, (lineC w r).size ≤ B) : ∀ o, (rowsC' o w xss).size ≤ o.size + xss.length * B := by
  induction xss with
  | nil => intro o; simp [rowsC']
  | cons r xss ih =>
    intro o
    have h1 := ih (fun r hr' => hr r (List.mem_cons_of_mem _ hr')) (o ++ lineC w r)
    have h3 := hr r (List.mem_cons_self ..)
    have e : rowsC' o w (r :: xss) = rowsC' (o ++ lineC w r) w xss := rfl
    rw [e, List.length_cons, Nat.succ_mul]
    rw [ByteArray.size_append] at h1
    omega
theorem GoodC.lens {st : Int} {n : Nat} {xss : List (List (List Int))} (h : GoodC st n xss) : ∀ r ∈ xss, r.length = n ∧ ∀ z ∈ r, z.length ≤ n := by
  intro r hr
  obtain ⟨k, hk, rfl⟩ := List.getElem_of_mem hr
  have e : xss.getD k [] = xss[k] := by simp [List.getD_eq_getElem?_getD, hk]
  have h1 := h.row k hk
  rw [e] at h1
  refine ⟨h1, fun z hz => ?_⟩
  obtain ⟨s, hs, rfl⟩ := List.getElem_of_mem hz
  have h2 := h.len hk (show s < n by omega)
  rw [e] at h2
  simpa [List.getD_eq_getElem?_getD, hs] using h2
theorem lineC_size {n : Nat} (hn : n ≤ 10) (r : List (List Int)) (h1 : r.length = n) (h2 : ∀ z ∈ r, z.length ≤ n) : (lineC letterC r).size ≤ 400 := by
  have := numC_size (m := 10) r (fun z hz => by have := h2 z hz; omega) letterC
  have e : (lineC letterC r).size = (numC letterC r).size + 1 := by unfold lineC; rw [ByteArray.size_append]; rfl
  have e6 : letterC.size = 6 := rfl
  have := Nat.mul_le_mul_right (3 * 10 + 2) (show r.length ≤ 10 by omega)
  omega

def choTx (st : Int) (xss : List (List (List Int))) : ByteArray := if validC st xss = true then rowsC' (lineB choiceW [st, xss.length]) letterC xss else ⟨#[]⟩
theorem GoodC.small {st : Int} {n : Nat} {xss : List (List (List Int))} (h : GoodC st n xss) {k s : Nat} (hk : k < xss.length) (hs : s < n) : ∀ z ∈ (xss.getD k []).getD s [], 0 ≤ z ∧ z ≤ 10 := fun z hz => by
  have := h.set hk hs z hz
  omega

theorem elem_string : Elem Tryz.prog 61 9 (.string ⟨#[]⟩) 16 := ⟨Tryz.underlying61, by kernel_rfl, rfl⟩
theorem size1_string : ∀ w, (sizeOf 9).run Tryz.prog w = .ok 1 w := fun _ => by kernel_rfl

/-- Join of the decimals that the call owns -/
theorem joinOwn_any (v : Value) (lo : Nat) (xs : List ByteArray) (w : World) (ho : w.ownsRow lo 9 1 v xs.length (xs.map Value.string)) (h0 : 0 < xs.length) (hl : xs.length ≤ 100) (hs : (Lib.join (xs.map (·.data.toList)) [44]).length ≤ 1000) :
    Calls Tryz.prog 30 #[v, .string ⟨#[44]⟩] w (RetB (.string ⟨(Lib.join (xs.map (·.data.toList)) [44]).toArray⟩) w) := by
  obtain ⟨g, cap, rfl, hcap⟩ := own_some ho h0
  have hc0 : w.cell? ⟨g, 0, none⟩ = some (.string (xs.getD 0 ⟨#[]⟩)) := by
    rw [ho.cellAt 0 (by omega)]; simp [List.getD_eq_getElem?_getD, h0]
  refine (Tryz.strings_Join g 0 cap xs ⟨#[44]⟩ w (fun j x hj => ?_) (block_lt_of_cell hc0) (by omega) hcap (by show (Lib.join _ [44]).length ≤ _; omega)).mono fun _ _ ⟨he, hb⟩ => ⟨he, hb⟩
  have hjl : j < xs.length := by
    rcases Nat.lt_or_ge j xs.length with h | h
    · exact h
    · rw [List.getElem?_eq_none h] at hj; cases hj
  rw [Nat.zero_add, ho.cellAt j (by omega), List.getElem?_map, hj]; rfl
theorem jn_data (zs : List Int) : (jn zs).size = (Lib.join ((zs.map dec).map (·.data.toList)) [44]).length := by unfold jn; show Array.size _ = _; simp


set_option maxRecDepth 100000 in
set_option maxHeartbeats 2000000 in
theorem implChoText_any (st : Int) (v : Value) (xss : List (List (List Int))) (w : World) (h1 : Rows3 w v xss) :
    Calls Tryz.prog 10 #[.agg #[.int .i64 st, v]] w (RetB (.string (choTx st xss)) w) := by
  obtain ⟨ao1, p1, o1, c1, H1⟩ := h1.open
  have hv1 := H1.val
  subst hv1
  have hm := H1.len
  obtain ⟨W1, hW1⟩ : ∃ W1, W1 = w.alloc (.cells #[.int .i64 st, .slice ao1 xss.length c1] 30) := ⟨_, rfl⟩
  have bx : Below w.heap.size w W1 := by rw [hW1]; exact below_alloc (Below.refl _ _) _
  have p0 : W1.cell? ⟨w.heap.size, 0, none⟩ = some (.int .i64 st) := by rw [hW1]; go_simp
  have p1' : W1.cell? ⟨w.heap.size, 1, none⟩ = some (.slice ao1 xss.length c1) := by rw [hW1]; go_simp
  have HOK := Lib.hid (validChoice_any st _ xss W1 (h1.kept bx))
  cases hv : validC st xss
  · rw [show choTx st xss = ⟨#[]⟩ by simp [choTx, hv]]
    rw [hv] at HOK
    subst hW1
    clear hv h1 H1
    go_enter Tryz.func10, Tryz.ntmps10
    go_wp2_with fail
    refine HOK.out.mono ?_
    rintro e w2 ⟨rfl, hb⟩
    go_wp2
    go_ret
    exact ⟨rfl, below_trans bx hb⟩
  · obtain ⟨n, hg⟩ := goodC_of hv
    rw [hv] at HOK
    have hst := hg.st
    have hlo := hg.lo
    have hhi := hg.hi
    have hl1 := hg.len1
    have hl3 := hg.len3
    have HLE := Lib.hid (fun W => lettersChoice_any st ao1 xss.length c1 W hm)
    have HHD := Lib.hid (fun W v (hi : Ints W v [st, (xss.length : Int)]) => line_any choiceW v [st, (xss.length : Int)] W hi (by intro z hz; simp at hz; rcases hz with rfl | rfl <;> omega) (by decide) (by simp))
    have HTX : Hid (choTx st xss = rowsC' (lineB choiceW [st, xss.length]) letterC xss) := by unfold Hid choTx; rw [if_pos hv]
    have hh0 := lineB_size choiceW [st, (xss.length : Int)]
    have hh : (lineB choiceW [st, (xss.length : Int)]).size ≤ 20 := Nat.le_trans hh0 (by show 6 + 3 * 2 + 1 ≤ 20; omega)
    have HSZ := Lib.hid (fun k => rowsC'_size (B := 400) letterC (xss.take k) (fun r hr => by have h := hg.lens r (List.mem_of_mem_take hr); exact lineC_size hhi r h.1 h.2) (lineB choiceW [st, (xss.length : Int)]))
    have HTK := Lib.hid (rowsC'_take (lineB choiceW [st, (xss.length : Int)]) letterC xss)
    have HDZ := Lib.hid (fun k (hk : k < xss.length) j (hj : j < n) q (hq : q < ((xss.getD k []).getD j []).length) W => decimal_any (((xss.getD k []).getD j []).getD q 0) W (hg.small hk hj _ (getD_mem hq _)).1 (hg.small hk hj _ (getD_mem hq _)).2)
    have HRL := Lib.hid (fun k (hk : k < xss.length) => hg.row k hk)
    have HSL := Lib.hid (fun k (hk : k < xss.length) j (hj : j < n) => hg.len hk hj)
    have HLN := Lib.hid (fun k (hk : k < xss.length) => hg.lens _ (getD_mem hk []))
    generalize lineB choiceW [st, (xss.length : Int)] = hd at HHD HTX HSZ HTK hh
    subst hW1
    clear hv hg h1 hh0 hst
    go_enter Tryz.func10, Tryz.ntmps10
    go_wp2_with fail
    refine HOK.out.mono ?_
    rintro e w2 ⟨rfl, hb⟩
    replace p0 := below_cell hb p0
    replace p1' := below_cell hb p1'
    have bw2 := below_trans bx hb
    have z0 := block_lt_of_cell p0
    clear hb
    go_wp2
    go_region_held3 (fun w' => Below w2.heap.size w2 w' ∧ ∀ b o, b < w2.heap.size → w'.cell? ⟨b, o, none⟩ = w2.cell? ⟨b, o, none⟩) (first | exact held_start | assumption | exact held_nx (by assumption) (by assumption) | exact held_alloc (by assumption))
      (first
        | (go_simp; go_at_call 29; refine (HLE.out _).mono ?_; rintro e w3 ⟨rfl, hb3⟩)
        | (go_simp; go_at_call 25; refine (HHD.out _ _ (ints_pair _ _ _ _)).mono ?_; rintro e w4 ⟨rfl, rfl⟩))
    all_goals
      rename Below w2.heap.size w2 _ ∧ _ => hS
      obtain ⟨hw4, hcs⟩ := hS
      have q1 := below_cell hw4 p1'
      clear hcs
      go_wp2
      go_loopw [3, 23] (fun o i wr => ∃ k : Nat, k ≤ xss.length ∧ i = .int .i64 k ∧ o = .string (rowsC' hd letterC (xss.take k)) ∧ Below w2.heap.size w2 wr) (fun _ i _ => xss.length - (intOf i).toNat)
      case atStart => exact ⟨0, Nat.zero_le _, rfl, rfl, hw4⟩
      case round =>
        obtain ⟨k, hk, rfl, rfl, hbr⟩ := hrel
        have hsz := HSZ.out k
        have hlt4 : (xss.take k).length ≤ 3 := by rw [List.length_take]; omega
        have hs6 : letterC.size = 6 := rfl
        have hsz2 : (rowsC' hd letterC (xss.take k)).size ≤ 2000 := by
          have := Nat.mul_le_mul_right 400 hlt4
          omega
        have bwr := below_trans bw2 hbr
        clear hsz hlt4 q1
        by_cases hlt : k < xss.length
        · have i1 := idx_of Tryz.underlying28 size1_rows (c := c1) H1.adr hlt .i64
          obtain ⟨r1, d2, hr1⟩ := H1.cell k hlt
          have e2 := below_cell bwr d2
          obtain ⟨ao2, p2, o2, c2, H2⟩ := hr1.open
          have hv2 := H2.val
          subst hv2
          have hm2 := H2.len
          have hrl := HRL.out k hlt
          have A2 := H2.adr
          rw [hrl] at A2 e2 hm2
          have HRL2 := Lib.hid hrl
          have HN := Lib.hid (HTK.out k hlt)
          have HNT := Lib.hid (fun (o : ByteArray) j (hj : j < n) => numC_take (o ++ letterC) (xss.getD k []) j (by rw [hrl]; exact hj))
          have HNS := Lib.hid (fun (o : ByteArray) j => numC_size (m := 10) ((xss.getD k []).take j) (fun z hz => by have := (HLN.out k hlt).2 z (List.mem_of_mem_take hz); omega) (o ++ letterC))
          have HAP := Lib.hid (fun (o : ByteArray) => numC_append o (xss.getD k []) letterC)
          have HDK := Lib.hid (HDZ.out k hlt)
          have HSK := Lib.hid (HSL.out k hlt)
          have HLB : Hid (lineC letterC (xss.getD k []) = numC letterC (xss.getD k []) ++ nlB) := rfl
          generalize rowsC' hd letterC (xss.take k) = o at HN hsz2 ⊢
          clear hr1 hrl d2
          go_wp2
          go_loopw [3, 31] (fun u i wr => ∃ j : Nat, j ≤ n ∧ i = .int .i64 j ∧ u = .string (numC (o ++ letterC) ((xss.getD k []).take j)) ∧ Below w2.heap.size w2 wr) (fun _ i _ => n - (intOf i).toNat)
          case atStart => exact ⟨0, Nat.zero_le _, rfl, rfl, hbr⟩
          case round =>
            obtain ⟨j, hj, rfl, rfl, hbx⟩ := hrel
            obtain ⟨wo, rfl⟩ : ∃ wo : World, wo = wr := ⟨_, rfl⟩
            have hns := HNS.out o j
            have hns2 : (numC (o ++ letterC) ((xss.getD k []).take j)).size ≤ 3000 := by
              have := Nat.mul_le_mul_right (3 * 10 + 2) (show ((xss.getD k []).take j).length ≤ 10 by rw [List.length_take]; omega)
              rw [ByteArray.size_append, hs6] at hns
              omega
            have bwx := below_trans bw2 hbx
            clear hns
            by_cases hlt2 : j < n
            · have i2 := idx_of Tryz.underlying24 size1_ints (c := c2) A2 hlt2 .i64
              obtain ⟨r3, d3, hr3⟩ := H2.cell j (by rw [HRL2.out]; exact hlt2)
              have e3 := below_cell bwx d3
              obtain ⟨ao3, p3, o3, c3, H3⟩ := hr3.open
              have hv3 := H3.val
              subst hv3
              have hm3 := H3.len
              have hsl := HSK.out j hlt2
              have HDJ := Lib.hid (HDK.out j hlt2)
              have HNJ := Lib.hid (HNT.out o j hlt2)
              generalize (xss.getD k []).getD j [] = zs at H3 e3 hm3 hsl HDJ HNJ
              generalize numC (o ++ letterC) ((xss.getD k []).take j) = u at HNJ hns2 ⊢
              have HE := Lib.hid (own_empty wo wo.heap.size (Nat.le_refl _) 9)
              have hcs := celC_size zs
              clear hr3 d3
              go_wp2
              go_loopw [8, 38] (fun x i wr => ∃ q : Nat, q ≤ zs.length ∧ i = .int .i64 q ∧ Hid (wr.ownsRow wo.heap.size 9 1 x q (((zs.take q).map dec).map Value.string)) ∧ Below wo.heap.size wo wr) (fun _ i _ => zs.length - (intOf i).toNat)
              case atStart => exact ⟨0, Nat.zero_le _, rfl, HE.out, below_alloc (Below.refl _ _) _⟩
              case round =>
                obtain ⟨q, hq, rfl, HO, hbq⟩ := hrel
                obtain ⟨ax, mx, cx, rfl, HMx⟩ := own_shape HO.out
                have hmx : mx = q := HMx.out
                subst hmx
                have bwq := below_trans hbx hbq
                by_cases hlt3 : mx < zs.length
                · have i3 := idx_of Tryz.underlying45 size1_int (c := c3) H3.adr hlt3 .i64
                  have d4 := below_cell (below_trans bwx hbq) (H3.cell mx hlt3)
                  have HDQ := Lib.hid (HDJ.out mx hlt3)
                  have HSN : Hid (((zs.take (mx + 1)).map dec).map Value.string = ((zs.take mx).map dec).map Value.string ++ [.string (dec (zs.getD mx 0))]) := by
                    unfold Hid
                    rw [List.take_succ_eq_append_getElem hlt3, List.map_append, List.map_append]
                    simp [List.getD_eq_getElem?_getD, hlt3]
                  have hds := dec_size (zs.getD mx 0)
                  generalize zs.getD mx 0 = z at d4 HDQ HSN hds
                  generalize dec z = d at HDQ HSN hds
                  clear HMx
                  go_wp2_with fail
                  refine (HDQ.out _).mono ?_
                  rintro e w5 ⟨rfl, rfl⟩
                  go_wp2_with (at_builtin; refine wpList_push elem_string rfl (.tmp 42) (.tmp 45) rfl wo.heap.size rfl HO.out _ rfl rfl (by unfold maxLen; omega) (by omega) hbq.size ?_; intro v6 w6 ho6 hg6 hs6)
                  have HO6 := Lib.hid ho6
                  have hb6 : Below wo.heap.size wo w6 := Below.grown hbq hg6 hbq.size (fun g hg => (own_block HO.out hg).1)
                  clear ho6 hg6 hs6
                  go_wp2
                  go_roundw
                  case rel => exact ⟨mx + 1, by omega, by go_num, by rw [HSN.out]; exact HO6.out, hb6⟩
                  case measure => simp [intOf]; omega
                · obtain rfl : mx = zs.length := by omega
                  have HO2 := HO.out
                  rw [List.take_length] at HO2
                  have HO3 := Lib.hid HO2
                  clear HO2 HO HMx
                  by_cases h0 : zs.length = 0
                  · obtain rfl : zs = [] := List.eq_nil_of_length_eq_zero h0
                    have HCE : Hid (celC [] = ⟨#[46]⟩) := rfl
                    have HO4 : Hid (wr.ownsRow wo.heap.size 9 1 (.slice ax 0 cx) 0 []) := HO3.out
                    have HJ := Lib.hid (fun v W (ho : W.ownsRow wo.heap.size 9 1 v 1 [.string ⟨#[46]⟩]) => show Calls Tryz.prog 30 #[v, .string ⟨#[44]⟩] W (RetB (.string ⟨#[46]⟩) W) from joinOwn_any v wo.heap.size [⟨#[46]⟩] W ho (by decide) (by decide) (by decide))
                    have HNF : Hid (numC (o ++ letterC) ((xss.getD k []).take (j + 1)) = u ++ (spB ++ ⟨#[46]⟩)) := by unfold Hid; rw [HNJ.out, HCE.out]
                    clear h0 HO3 hsl hcs
                    go_wp2_with (at_builtin; refine wpList_push elem_string rfl (.tmp 51) (.tmp 52) rfl wo.heap.size rfl HO4.out _ rfl rfl (by unfold maxLen; omega) (by omega) hbq.size ?_; intro v6 w6 ho6 hg6 hs6)
                    have HO6 : Hid (w6.ownsRow wo.heap.size 9 1 v6 1 [.string ⟨#[46]⟩]) := by simpa [Hid] using ho6
                    have hb6 : Below wo.heap.size wo w6 := Below.grown hbq hg6 hbq.size (fun g hg => (own_block HO4.out hg).1)
                    clear ho6 hg6 hs6
                    refine (HJ.out _ _ HO6.out).mono ?_
                    rintro e w7 ⟨rfl, hb7⟩
                    have hbb := below_trans hbx (below_trans hb6 hb7)
                    go_wp2
                    go_roundw
                    case rel => exact ⟨j + 1, by omega, by go_num, by rw [HNF.out]; rfl, hbb⟩
                    case measure => simp [intOf]; omega
                  · have hne : ((zs.length : Int) == 0) = false := by simp; intro h; exact h0 (by rw [h]; rfl)
                    have HCE : Hid (celC zs = jn zs) := by unfold Hid celC; rw [if_neg h0]
                    have HJ : Hid (Calls Tryz.prog 30 #[.slice ax zs.length cx, .string ⟨#[44]⟩] wr (RetB (.string (jn zs)) wr)) := by
                      have hj := jn_size zs zs.length (Nat.le_refl _)
                      rw [List.take_length, jn_data] at hj
                      exact joinOwn_any _ wo.heap.size (zs.map dec) wr (by rw [List.length_map]; exact HO3.out) (by rw [List.length_map]; omega) (by rw [List.length_map]; omega) (by omega)
                    have hjs : (jn zs).size ≤ 40 := by have := jn_size zs zs.length (Nat.le_refl _); rw [List.take_length] at this; omega
                    have HNF : Hid (numC (o ++ letterC) ((xss.getD k []).take (j + 1)) = u ++ (spB ++ jn zs)) := by unfold Hid; rw [HNJ.out, HCE.out]
                    have hs1 : spB.size = 1 := rfl
                    generalize jn zs = js at HJ hjs HNF
                    clear h0
                    go_wp2_with fail
                    refine HJ.out.mono ?_
                    rintro e w7 ⟨rfl, hb7⟩
                    have hbb := below_trans bwq hb7
                    go_wp2
                    go_roundw
                    case rel => exact ⟨j + 1, by omega, by go_num, by rw [HNF.out]; rfl, hbb⟩
                    case measure => simp [intOf]; omega
            · obtain rfl : j = n := by omega
              have hu : numC (o ++ letterC) ((xss.getD k []).take j) = o ++ numC letterC (xss.getD k []) := by rw [List.take_of_length_le (by rw [HRL2.out]; exact Nat.le_refl _), HAP.out]
              rw [hu] at hns2 ⊢
              have HFIN : Hid (rowsC' hd letterC (xss.take (k + 1)) = o ++ numC letterC (xss.getD k []) ++ nlB) := by unfold Hid; rw [HN.out, HLB.out, ByteArray.append_assoc]
              generalize o ++ numC letterC (xss.getD k []) = u at HFIN hns2 ⊢
              clear hu
              go_wp2
              go_roundw
              case rel => exact ⟨k + 1, by omega, by go_num, by rw [HFIN.out]; rfl, hbx⟩
              case measure => simp [intOf]; omega
        · obtain rfl : k = xss.length := by omega
          rw [List.take_length]
          go_wp2
          go_ret
          exact ⟨by rw [HTX.out]; rfl, bwr⟩



end Go.Proofs.YtfdacodbiodiaaaGreatDoor
