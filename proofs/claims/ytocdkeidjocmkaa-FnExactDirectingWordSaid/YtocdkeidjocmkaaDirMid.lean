/- The two lists of the reference's search for a word that directs; lists of sets as rows of numbers. -/
import Derived.Test.YtocdkeidjocmkaaDirStep
import Derived.Test.YtocdkeidjocmkaaDirects
import Derived.Test.YtocdkeidjocmkaaMonoidMid
namespace Go.Proofs.Ytocdkeidjocmkaa
set_option linter.unusedVariables false
set_option linter.unusedSimpArgs false
open Go.ChangeShapes Go.WideShapes Go.ChangeAt Go.RowKit

def castL (y : List Nat) : List Int := y.map fun (f : Nat) => (f : Int)
theorem castL_len (y : List Nat) : (castL y).length = y.length := by simp [castL]
theorem castL_at {y : List Nat} {k : Nat} (h : k < y.length) : (castL y).getD k 0 = ((y.getD k 0 : Nat) : Int) := by simp [castL, List.getD_eq_getElem?_getD, h]
theorem castL_inj : ∀ {a b : List Nat}, castL a = castL b → a = b := by
  intro a
  induction a with
  | nil => intro b h; cases b with
    | nil => rfl
    | cons y ys => simp [castL] at h
  | cons x xs ih =>
    intro b h
    cases b with
    | nil => simp [castL] at h
    | cons y ys =>
      simp only [castL, List.map_cons, List.cons.injEq] at h
      rw [ih h.2, show x = y by omega]
def castK (K : List (List Nat)) : List (List Int) := K.map castL
theorem castK_len (K : List (List Nat)) : (castK K).length = K.length := by simp [castK]
theorem castK_mem {K : List (List Nat)} {y : List Nat} : castL y ∈ castK K ↔ y ∈ K := by
  unfold castK
  rw [List.mem_map]
  exact ⟨fun ⟨a, ha, e⟩ => castL_inj e ▸ ha, fun h => ⟨y, h, rfl⟩⟩
theorem castK_at {K : List (List Nat)} {k : Nat} (h : k < K.length) : (castK K).getD k [] = castL (K.getD k []) := by simp [castK, List.getD_eq_getElem?_getD, h]
theorem castK_snoc (K : List (List Nat)) (y : List Nat) : castK (K ++ [y]) = castK K ++ [castL y] := by simp [castK]
/-- one more set of a row under way -/
theorem goA_snoc {row : List (List Int)} {n s : Nat} {a : List Nat} (h : s < a.length) : ((castL (goA row n a)).take s).map (Value.int .i64) ++ [.int .i64 (goN row (a.getD s 0) n : Nat)] = ((castL (goA row n a)).take (s + 1)).map (Value.int .i64) := by
  have h2 : s < (castL (goA row n a)).length := by simp [castL, goA, h]
  rw [List.take_succ_eq_append_getElem h2, List.map_append]
  simp [castL, goA, List.getD_eq_getElem?_getD, h]
theorem firstD_snoc (k : Nat) : (castL (firstD k)).map (Value.int .i64) ++ [.int .i64 ((2 ^ k : Nat) : Int)] = (castL (firstD (k + 1))).map (Value.int .i64) := by
  unfold castL firstD
  rw [List.range_succ]
  simp
theorem firstD_len (n : Nat) : (firstD n).length = n := by simp [firstD]
theorem MMid.pushRow {W w w' : World} {lo : Nat} {av wv v' r : Value} {K Z : List (List Int)} {rs : List Value} {ys : List Int} (h : MMid W w lo av wv K Z) (hrs : OwnRows w lo wv rs Z) (hnn : ∀ k, k < Z.length → (rs.getD k undef).ownBlock ≠ none) (h0 : 0 < ys.length) {lo2 : Nat} (hr : w.ownsRow lo2 2 1 r ys.length (ys.map (Value.int .i64))) (hl : lo ≤ lo2) (hne : ∀ i, i < Z.length → (rs.getD i undef).ownBlock = none ∨ (rs.getD i undef).ownBlock ≠ r.ownBlock)
    (hg : w.grownBy w' wv.ownBlock) (ho : w'.ownsRow lo 55 1 v' (Z.length + 1) (rs ++ [r])) (hs : SameOrNew wv v' w.heap.size) : MMid W w' lo av v' K (Z ++ [ys]) := by
  obtain ⟨ra, ha⟩ := h.acts
  have hpo := push_other hg hs ha.outer h.apart
  refine ⟨⟨ra, ha.keepAll hg h.apart (fun k hk => own_ne (ha.row k hk) hrs.outer (by decide))⟩, ⟨rs ++ [r], hrs.pushed hg ho hr hl hne, fun k hk => ?_⟩, hpo.2, h.below.grown hg h.low (fun g hg => (own_block hrs.outer hg).1), Nat.le_trans h.low hg.size⟩
  rw [List.length_append, List.length_singleton] at hk
  have hlen := hrs.len
  by_cases hin : k < Z.length
  · rw [show (rs ++ [r]).getD k undef = rs.getD k undef by simp [List.getD_eq_getElem?_getD, List.getElem?_append, hlen, hin]]
    exact hnn k hin
  · obtain rfl : k = Z.length := by omega
    rw [show (rs ++ [r]).getD Z.length undef = r by simp [List.getD_eq_getElem?_getD, hlen]]
    obtain ⟨g, cap, e, _⟩ := own_some hr h0
    rw [e]
    simp [Value.ownBlock]

end Go.Proofs.Ytocdkeidjocmkaa
