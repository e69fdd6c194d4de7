/- FindCertificate of the program. -/
import Derived.Test.YtocdkeidjocmkaaPairList
import Derived.Test.YtocdkeidjocmkaaMerges
import Derived.Test.YtocdkeidjocmkaaCertLaw
import Derived.Deep.RegionLaw
namespace Go.Proofs.Ytocdkeidjocmkaa
set_option linter.unusedVariables false
set_option linter.unusedSimpArgs false
open Go.ChangeShapes Go.WideShapes Go.ChangeAt Go.RowKit

/-- the pairs that no word merges; all pairs; their words -/
def fcBad (xss : List (List Int)) (s t : Nat) : Bool := !(mgOk xss s t)
def fcApart (xss : List (List Int)) (n : Nat) : List (List Int) := pairsTo (fcBad xss) n n
def fcAll (n : Nat) : List (List Int) := pairsTo (fun _ _ => true) n n
def wordAt (xss : List (List Int)) (p : List Int) : List Int := mgW xss (p.getD 0 0).toNat (p.getD 1 0).toNat
def fcWords (xss : List (List Int)) (n : Nat) : List (List Int) := (fcAll n).map (wordAt xss)
def fcSide (st : Int) (xss : List (List Int)) : Bool := if validB st xss = true then decide (0 < (fcApart xss st.toNat).length) else true
def fcK (st : Int) (xss : List (List Int)) : Int := if validB st xss = true then (if fcSide st xss = true then 2 else 1) else 0
def fcCd (st : Int) (xss : List (List Int)) : Int := if validB st xss = true then 0 else 1
def fcZs (st : Int) (xss : List (List Int)) : List (List Int) := if validB st xss = true then (if fcSide st xss = true then fcApart xss st.toNat else fcWords xss st.toNat) else []
/-- .. on the one side or the other -/
def NewCert (side : Bool) (k : Int) (xss : List (List Int)) (code : Int) (w : World) (e : Ending) (w' : World) : Prop := (side = true → NewCertP k xss code w e w') ∧ (side = false → NewCertW k xss code w e w')

theorem pairRow_mem (P : Nat → Nat → Bool) (s m : Nat) : ∀ l ∈ pairRow P s m, ∃ j, j < m ∧ l = [(s : Int), ((s + 1 + j : Nat) : Int)] := by
  intro l hl
  unfold pairRow at hl
  rw [List.mem_map] at hl
  obtain ⟨j, hj, rfl⟩ := hl
  rw [List.mem_filter, List.mem_range] at hj
  exact ⟨j, hj.1, rfl⟩
theorem pairsTo_mem (P : Nat → Nat → Bool) (n : Nat) : ∀ s, s ≤ n → ∀ l ∈ pairsTo P n s, ∃ x y : Nat, l = [(x : Int), (y : Int)] ∧ x < y ∧ y < n ∧ x < s := by
  intro s
  induction s with
  | zero => intro _ l hl; simp [pairsTo] at hl
  | succ s ih =>
    intro hs l hl
    rw [pairsTo, List.mem_append] at hl
    rcases hl with hl | hl
    · obtain ⟨x, y, h1, h2, h3, h4⟩ := ih (by omega) l hl
      exact ⟨x, y, h1, h2, h3, by omega⟩
    · obtain ⟨j, hj, rfl⟩ := pairRow_mem P s _ l hl
      exact ⟨s, s + 1 + j, rfl, by omega, by omega, by omega⟩
theorem fcAll_at {n i : Nat} (hi : i < (fcAll n).length) : ∃ x y : Nat, (fcAll n).getD i [] = [(x : Int), (y : Int)] ∧ x < y ∧ y < n := by
  obtain ⟨x, y, h1, h2, h3, _⟩ := pairsTo_mem (fun _ _ => true) n n (Nat.le_refl _) _ (getD_mem hi [])
  exact ⟨x, y, h1, h2, h3⟩
/-- the pairs stand in ascending order -/
def pairLt (p q : List Int) : Prop := p.getD 0 0 < q.getD 0 0 ∨ (p.getD 0 0 = q.getD 0 0 ∧ p.getD 1 0 < q.getD 1 0)
theorem pairRow_sorted (P : Nat → Nat → Bool) (s m : Nat) : List.Pairwise pairLt (pairRow P s m) := by
  unfold pairRow
  rw [List.pairwise_map]
  refine List.Pairwise.imp ?_ (List.Pairwise.filter _ (List.pairwise_lt_range (n := m)))
  intro a b h
  right
  simp
  omega
theorem pairsTo_sorted (P : Nat → Nat → Bool) (n : Nat) : ∀ s, s ≤ n → List.Pairwise pairLt (pairsTo P n s) := by
  intro s
  induction s with
  | zero => intro _; exact List.Pairwise.nil
  | succ s ih =>
    intro hs
    rw [pairsTo, List.pairwise_append]
    refine ⟨ih (by omega), pairRow_sorted P s _, fun a ha b hb => ?_⟩
    obtain ⟨x, y, rfl, h2, h3, h4⟩ := pairsTo_mem P n s (by omega) a ha
    obtain ⟨j, hj, rfl⟩ := pairRow_mem P s _ b hb
    left
    simp
    omega
theorem fcAll_lt {n i j : Nat} (hij : i < j) (hj : j < (fcAll n).length) : pairLt ((fcAll n).getD i []) ((fcAll n).getD j []) := by
  have h := List.pairwise_iff_getElem.1 (pairsTo_sorted (fun _ _ => true) n n (Nat.le_refl _)) i j (show i < (fcAll n).length by omega) hj hij
  have e1 : (fcAll n).getD i [] = (fcAll n)[i] := by simp [List.getD_eq_getElem?_getD, show i < (fcAll n).length by omega]
  have e2 : (fcAll n).getD j [] = (fcAll n)[j] := by simp [List.getD_eq_getElem?_getD, hj]
  rw [e1, e2]
  exact h
theorem get_getDV (l : List Value) {i : Nat} (h : i < l.length) : l[i]? = some (l.getD i undef) := by simp [List.getD_eq_getElem?_getD, h]
theorem nil_yesV : ∀ W, Sem.run Try.prog (binOp .eql 55 (.slice none 0 0) (.slice none 0 0)) W = .ok (.bool true) W := fun _ => by kernel_rfl
theorem nil_noV (g n c : Nat) : ∀ W, Sem.run Try.prog (binOp .eql 55 (.slice (some ⟨g, 0, none⟩) n c) (.slice none 0 0)) W = .ok (.bool false) W := fun _ => by kernel_rfl
/-- the word of a pair, at its place in the table -/
def valAt (RR : List (List Value)) (p : List Int) : Value := (RR.getD (p.getD 0 0).toNat []).getD (p.getD 1 0).toNat undef
theorem MTabA.word {w : World} {lo g c n : Nat} {Rs : List Value} {RR : List (List Value)} {xss : List (List Int)} (h : MTabA w lo (.slice (some ⟨g, 0, none⟩) Rs.length c) Rs RR n (mgW xss) (mgOk xss)) (hn : Rs.length = n) {p : List Int} {x y : Nat} (hp : p = [(x : Int), (y : Int)]) (hx : x < n) (hy : y < n) :
    ∃ rg rc, w.cell? ⟨g, x, none⟩ = some (.slice (some ⟨rg, 0, none⟩) n rc) ∧ w.cell? ⟨rg, y, none⟩ = some (valAt RR p) ∧ w.ownsRow lo 2 1 (valAt RR p) (wordAt xss p).length ((wordAt xss p).map (Value.int .i64)) ∧ NilIf (mgOk xss x y) (mgW xss x y).length (valAt RR p) := by
  obtain ⟨e, hr⟩ := h.row x (by omega)
  have ho := hr.outer
  obtain ⟨rg, rc, hv, _⟩ := own_some ho (by omega)
  obtain ⟨r1, r2⟩ := hr.row y (by omega)
  have ev : valAt RR p = (RR.getD x []).getD y undef := by subst hp; rfl
  have ew : wordAt xss p = mgW xss x y := by subst hp; rfl
  rw [ev, ew]
  refine ⟨rg, rc, ?_, ?_, r1, r2⟩
  · rw [h.outer.cellAt x (by omega), get_getDV _ (by omega), hv, e]
  · rw [hv] at ho
    rw [ho.cellAt y (by omega), get_getDV _ (by omega)]
theorem MTabA.apartAt {w : World} {lo n : Nat} {v : Value} {Rs : List Value} {RR : List (List Value)} {zs : Nat → Nat → List Int} {ok : Nat → Nat → Bool} (h : MTabA w lo v Rs RR n zs ok) (hn : Rs.length = n) {p q : List Int} {x y x' y' : Nat} (hp : p = [(x : Int), (y : Int)]) (hq : q = [(x' : Int), (y' : Int)]) (hx : x' < n) (hy : y < n) (hy' : y' < n) (hlt : pairLt p q) :
    (valAt RR p).ownBlock = none ∨ (valAt RR p).ownBlock ≠ (valAt RR q).ownBlock := by
  subst hp
  subst hq
  refine h.apart x y x' y' (by omega) hy hy' ?_
  unfold pairLt at hlt
  simp at hlt
  omega

set_option maxRecDepth 100000 in
theorem findLit1_any (s t b n tg tc : Nat) (Rs : List Value) (RR : List (List Value)) (xss : List (List Int)) (lo : Nat) (W : World) (hb : W.cell? ⟨b, 0, none⟩ = some (.slice (some ⟨tg, 0, none⟩) n tc)) (hT : MTabA W lo (.slice (some ⟨tg, 0, none⟩) n tc) Rs RR n (mgW xss) (mgOk xss)) (hn : Rs.length = n) (hs : s < n) (ht : t < n) :
    Calls Try.prog 54 #[.int .i64 s, .int .i64 t, .pointer (some ⟨b, 0, none⟩)] W (RetB (.bool (fcBad xss s t)) W) := by
  subst hn
  obtain ⟨rg, rc, d0, d1, _, hni⟩ := hT.word rfl (p := [(s : Int), (t : Int)]) rfl hs ht
  have i3 := idx_of Try.underlying26 size1_rows (ao := some ⟨tg, 0, none⟩) (b := tg) (o := 0) (n := Rs.length) (c := tc) (fun _ => rfl) hs .i64
  have i4 := idx_of Try.underlying22 size1_ints (ao := some ⟨rg, 0, none⟩) (b := rg) (o := 0) (n := Rs.length) (c := rc) (fun _ => rfl) ht .i64
  rw [Nat.zero_add] at i3 i4
  unfold fcBad
  generalize (mgW xss s t).length = m at hni
  generalize valAt RR [(s : Int), (t : Int)] = u at d1 hni
  generalize mgOk xss s t = o at hni ⊢
  clear hT
  cases o
  · obtain rfl := hni.1 rfl
    have hyes := nil_yesV
    go_enter Try.func54, Try.ntmps54
    go_wp2
    go_ret
    exact ⟨rfl, Below.refl _ _⟩
  · obtain ⟨g, c, rfl⟩ := hni.2 rfl
    have hno := nil_noV g m c
    go_enter Try.func54, Try.ntmps54
    go_wp2
    go_ret
    exact ⟨rfl, Below.refl _ _⟩
theorem findLit2_any (s t : Nat) (W : World) : Calls Try.prog 55 (#[.int .i64 s, .int .i64 t] ++ #[]) W (RetB (.bool true) W) := by
  go_enter Try.func55, Try.ntmps55
  go_wp2
  go_ret
  exact ⟨rfl, Below.refl _ _⟩

end Go.Proofs.Ytocdkeidjocmkaa
