/- The period: the plain law. -/
import Derived.Test.YtlgnbbfhejjodaaReachLaw
namespace Go.Proofs.Ytlgnbbfhejjodaa
set_option linter.unusedVariables false
set_option linter.unusedSimpArgs false

/-- the list of states met, and how far they are -/
abbrev PState := List Int × (Int → Int)
def pAdd (p : PState) (z t : Int) : PState := if t ∈ p.1 then p else (p.1 ++ [t], fun u => if u = t then p.2 z + 1 else p.2 u)
def pRow (xss : List (List Int)) (z : Int) (p : PState) (x : Nat) : PState := (List.range x).foldl (fun p j => pAdd p z (toZ xss z j)) p
theorem pRow_succ (xss : List (List Int)) (z : Int) (p : PState) (x : Nat) : pRow xss z p (x + 1) = pAdd (pRow xss z p x) z (toZ xss z x) := by simp [pRow, List.range_succ, List.foldl_append]
def pTo (xss : List (List Int)) : Nat → PState
  | 0 => ([0], fun _ => 0)
  | i + 1 => if i < (pTo xss i).1.length then pRow xss ((pTo xss i).1.getD i 0) (pTo xss i) xss.length else pTo xss i
theorem pAdd_fst (p : PState) (z t : Int) : (pAdd p z t).1 = addZ p.1 t := by unfold pAdd addZ; split <;> rfl
theorem pRow_fst (xss : List (List Int)) (z : Int) (p : PState) (x : Nat) : (pRow xss z p x).1 = rRow xss z p.1 x := by
  induction x with
  | zero => rfl
  | succ x ih => rw [pRow_succ, rRow_succ, pAdd_fst, ih]
theorem pTo_fst (xss : List (List Int)) (i : Nat) : (pTo xss i).1 = rTo xss 0 i := by
  induction i with
  | zero => rfl
  | succ i ih => rw [pTo, rTo, ← ih]; split <;> first | (rw [pRow_fst]) | rfl
theorem pTo_succ {xss : List (List Int)} {i : Nat} (h : i < (pTo xss i).1.length) : pTo xss (i + 1) = pRow xss ((pTo xss i).1.getD i 0) (pTo xss i) xss.length := by rw [pTo, if_pos h]
theorem pTo_stop {xss : List (List Int)} {i : Nat} (h : (pTo xss i).1.length ≤ i) : ∀ j, pTo xss (i + j) = pTo xss i := by
  intro j
  induction j with
  | zero => rfl
  | succ j ih => rw [← Nat.add_assoc, pTo, ih, if_neg (by omega)]
def pEnd (xss : List (List Int)) : PState := pTo xss 1024
theorem pEnd_stop {xss : List (List Int)} {i : Nat} (h : (pTo xss i).1.length ≤ i) (hi : i ≤ 1024) : pTo xss i = pEnd xss := by
  have := pTo_stop h (1024 - i)
  rw [show i + (1024 - i) = 1024 by omega] at this
  exact this.symm

/-- what is met stays, at its place and as far -/
structure PExt (p q : PState) : Prop where
  pre : ∃ m, q.1 = p.1 ++ m
  far : ∀ u ∈ p.1, q.2 u = p.2 u
theorem PExt.refl (p : PState) : PExt p p := ⟨⟨[], by simp⟩, fun _ _ => rfl⟩
theorem PExt.mem {p q : PState} (h : PExt p q) {u : Int} (hu : u ∈ p.1) : u ∈ q.1 := by obtain ⟨m, e⟩ := h.pre; rw [e]; exact List.mem_append_left _ hu
theorem PExt.trans {p q r : PState} (h : PExt p q) (h2 : PExt q r) : PExt p r := by
  obtain ⟨m, e⟩ := h.pre
  obtain ⟨m2, e2⟩ := h2.pre
  exact ⟨⟨m ++ m2, by rw [e2, e, List.append_assoc]⟩, fun u hu => (h2.far u (h.mem hu)).trans (h.far u hu)⟩
theorem PExt.add (p : PState) (z t : Int) : PExt p (pAdd p z t) := by
  unfold pAdd
  split
  · exact PExt.refl p
  · rename_i hn
    refine ⟨⟨[t], rfl⟩, fun u hu => ?_⟩
    show (if u = t then _ else _) = _
    rw [if_neg (fun e => hn (by rw [← e]; exact hu))]
theorem PExt.row (xss : List (List Int)) (z : Int) (p : PState) : ∀ x y, x ≤ y → PExt (pRow xss z p x) (pRow xss z p y) := by
  intro x y h
  induction y with
  | zero => obtain rfl : x = 0 := by omega
            exact PExt.refl _
  | succ y ih =>
    rcases Nat.lt_or_ge x (y + 1) with h' | h'
    · rw [pRow_succ]; exact (ih (by omega)).trans (PExt.add _ _ _)
    · obtain rfl : x = y + 1 := by omega
      exact PExt.refl _
theorem PExt.to (xss : List (List Int)) : ∀ i j, i ≤ j → PExt (pTo xss i) (pTo xss j) := by
  intro i j h
  induction j with
  | zero => obtain rfl : i = 0 := by omega
            exact PExt.refl _
  | succ j ih =>
    rcases Nat.lt_or_ge i (j + 1) with h' | h'
    · refine (ih (by omega)).trans ?_
      rw [pTo]
      split
      · exact PExt.row xss _ _ 0 _ (Nat.zero_le _)
      · exact PExt.refl _
    · obtain rfl : i = j + 1 := by omega
      exact PExt.refl _
theorem PExt.rowEnd {xss : List (List Int)} {i x : Nat} (h : i < (pTo xss i).1.length) (hx : x ≤ xss.length) (hi : i < 1024) : PExt (pRow xss ((pTo xss i).1.getD i 0) (pTo xss i) x) (pEnd xss) := by
  have h1 := PExt.to xss (i + 1) 1024 (by omega)
  rw [pTo_succ h] at h1
  exact (PExt.row xss _ _ _ _ hx).trans h1

/-- the numbers are small -/
def PSmall (p : PState) : Prop := ∀ u, 0 ≤ p.2 u ∧ p.2 u < p.1.length
theorem PSmall.add {p : PState} (h : PSmall p) (z t : Int) : PSmall (pAdd p z t) := by
  unfold pAdd
  split
  · exact h
  · intro u
    show 0 ≤ (if u = t then p.2 z + 1 else p.2 u) ∧ (if u = t then p.2 z + 1 else p.2 u) < ((p.1 ++ [t]).length : Nat)
    have h1 := h z
    have h2 := h u
    rw [List.length_append, List.length_singleton]
    split <;> omega
theorem PSmall.row {xss : List (List Int)} {z : Int} {p : PState} (h : PSmall p) (x : Nat) : PSmall (pRow xss z p x) := by
  induction x with
  | zero => exact h
  | succ x ih => rw [pRow_succ]; exact ih.add _ _
theorem PSmall.to (xss : List (List Int)) (i : Nat) : PSmall (pTo xss i) := by
  induction i with
  | zero => intro u; simp [pTo]
  | succ i ih => rw [pTo]; split
                 · exact ih.row _
                 · exact ih

/-- the greatest common divisor over the first x letters of state z -/
def dAt (F : Int → Int) (xss : List (List Int)) (z : Int) (x : Nat) : Int := F z + 1 - F (toZ xss z x)
def gRow (F : Int → Int) (xss : List (List Int)) (z : Int) (g x : Nat) : Nat := (List.range x).foldl (fun g j => Nat.gcd g (dAt F xss z j).natAbs) g
theorem gRow_succ (F : Int → Int) (xss : List (List Int)) (z : Int) (g x : Nat) : gRow F xss z g (x + 1) = Nat.gcd (gRow F xss z g x) (dAt F xss z x).natAbs := by simp [gRow, List.range_succ, List.foldl_append]
theorem gRow_gcd (F : Int → Int) (xss : List (List Int)) (z : Int) (g x : Nat) : gRow F xss z g x = Nat.gcd g (gRow F xss z 0 x) := by
  induction x with
  | zero => simp [gRow]
  | succ x ih => rw [gRow_succ, gRow_succ, ih, Nat.gcd_assoc]
def gList (F : Int → Int) (xss : List (List Int)) (L : List Int) : Nat := L.foldl (fun g z => gRow F xss z g xss.length) 0
theorem gList_snoc (F : Int → Int) (xss : List (List Int)) (L : List Int) (z : Int) : gList F xss (L ++ [z]) = gRow F xss z (gList F xss L) xss.length := by simp [gList, List.foldl_append]
theorem gList_perm {F : Int → Int} {xss : List (List Int)} {L M : List Int} (h : L.Perm M) : gList F xss L = gList F xss M := by
  unfold gList
  refine h.foldl_eq' (fun x _ y _ g => ?_) 0
  rw [gRow_gcd F xss y, gRow_gcd F xss x g, gRow_gcd F xss x (gRow F xss y g _), gRow_gcd F xss y g, Nat.gcd_assoc, Nat.gcd_assoc, Nat.gcd_comm (gRow F xss x 0 _)]
theorem gRow_le {F : Int → Int} {xss : List (List Int)} {z : Int} {g : Nat} {B : Nat} (hF : ∀ u, 0 ≤ F u ∧ F u < B) (hg : g ≤ B) : ∀ x, gRow F xss z g x ≤ B := by
  intro x
  induction x with
  | zero => exact hg
  | succ x ih =>
    rw [gRow_succ]
    have h1 := hF z
    have h2 := hF (toZ xss z x)
    rcases Nat.eq_zero_or_pos (gRow F xss z g x) with h | h
    · rw [h, Nat.gcd_zero_left]
      unfold dAt
      omega
    · exact Nat.le_trans (Nat.gcd_le_left _ h) ih
theorem gList_le {F : Int → Int} {xss : List (List Int)} {B : Nat} (hF : ∀ u, 0 ≤ F u ∧ F u < B) (L : List Int) : gList F xss L ≤ B := by
  have : ∀ (L : List Int) (g : Nat), g ≤ B → L.foldl (fun g z => gRow F xss z g xss.length) g ≤ B := by
    intro L
    induction L with
    | nil => intro g h; exact h
    | cons z L ih => intro g h; exact ih _ (gRow_le hF h _)
  exact this L 0 (Nat.zero_le _)

def pdF (xss : List (List Int)) : Int → Int := (pEnd xss).2
/-- the period -/
def pdG (xss : List (List Int)) (n : Nat) : Nat := gList (pdF xss) xss (allZ n)
theorem pEnd_fst (xss : List (List Int)) : (pEnd xss).1 = reachOf xss 0 := pTo_fst xss 1024
theorem pd_perm {st : Int} {n : Nat} {xss : List (List Int)} (hg : Good st n xss) (h : (rcZs xss 0).length = n) : gList (pdF xss) xss (pEnd xss).1 = pdG xss n := by
  have hn := hg.lo
  have hd := reach_dist hg (s := 0) ⟨by omega, by omega⟩
  refine gList_perm ?_
  rw [pEnd_fst]
  have e : rcZs xss 0 = allZ n := by
    have hl : (rcZs xss 0).length = (allZ n).length := by rw [h]; simp [allZ]
    refine sorted_ext (putAll_sorted _) (allZ_sorted n) fun x => ⟨fun hx => ?_, fun hx => ?_⟩
    · have := hd.bd x (mem_putAll.1 hx)
      exact List.mem_map.2 ⟨x.toNat, List.mem_range.2 (by omega), by omega⟩
    · by_cases hin : x ∈ rcZs xss 0
      · exact hin
      · have h1 : (x :: rcZs xss 0).Nodup := List.nodup_cons.2 ⟨hin, nodup_of_sorted (putAll_sorted _)⟩
        have h2 := sub_len h1 (B := allZ n) fun y hy => by
          rcases List.mem_cons.1 hy with rfl | hy
          · exact hx
          · have := hd.bd y (mem_putAll.1 hy)
            exact List.mem_map.2 ⟨y.toNat, List.mem_range.2 (by omega), by omega⟩
        rw [List.length_cons] at h2
        omega
  rw [← e]
  exact (List.perm_ext_iff_of_nodup hd.nd (nodup_of_sorted (putAll_sorted _))).2 fun x => mem_putAll.symm

/-- the remainder that Go gives -/
theorem gcd_tmod (a b : Int) : Nat.gcd b.natAbs (a.tmod b).natAbs = Nat.gcd a.natAbs b.natAbs := by
  rw [Int.natAbs_tmod, Nat.gcd_comm, ← Nat.gcd_rec, Nat.gcd_comm]

end Go.Proofs.Ytlgnbbfhejjodaa
