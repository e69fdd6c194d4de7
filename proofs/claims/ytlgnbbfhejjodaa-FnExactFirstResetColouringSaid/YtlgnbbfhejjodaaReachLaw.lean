/- The states that can be reached: the plain law of the search. -/
import Derived.Test.YtlgnbbfhejjodaaPut
namespace Go.Proofs.Ytlgnbbfhejjodaa
set_option linter.unusedVariables false
set_option linter.unusedSimpArgs false

def addZ (L : List Int) (t : Int) : List Int := if t ∈ L then L else L ++ [t]
/-- where letter x leads from z -/
def toZ (xss : List (List Int)) (z : Int) (x : Nat) : Int := (xss.getD x []).getD z.toNat 0
/-- the list after the first x letters of state z -/
def rRow (xss : List (List Int)) (z : Int) (L : List Int) (x : Nat) : List Int := (List.range x).foldl (fun L j => addZ L (toZ xss z j)) L
theorem rRow_succ (xss : List (List Int)) (z : Int) (L : List Int) (x : Nat) : rRow xss z L (x + 1) = addZ (rRow xss z L x) (toZ xss z x) := by simp [rRow, List.range_succ, List.foldl_append]
/-- the list after i rounds -/
def rTo (xss : List (List Int)) (s : Int) : Nat → List Int
  | 0 => [s]
  | i + 1 => if i < (rTo xss s i).length then rRow xss ((rTo xss s i).getD i 0) (rTo xss s i) xss.length else rTo xss s i
theorem rTo_succ {xss : List (List Int)} {s : Int} {i : Nat} (h : i < (rTo xss s i).length) : rTo xss s (i + 1) = rRow xss ((rTo xss s i).getD i 0) (rTo xss s i) xss.length := by rw [rTo, if_pos h]
theorem rTo_stop {xss : List (List Int)} {s : Int} {i : Nat} (h : (rTo xss s i).length ≤ i) : ∀ j, rTo xss s (i + j) = rTo xss s i := by
  intro j
  induction j with
  | zero => rfl
  | succ j ih =>
    rw [← Nat.add_assoc, rTo, ih, if_neg (by omega)]
theorem addZ_pre (L : List Int) (t : Int) : ∃ m, addZ L t = L ++ m := by unfold addZ; split; · exact ⟨[], by simp⟩
                                                                         · exact ⟨[t], rfl⟩
theorem rRow_pre (xss : List (List Int)) (z : Int) (L : List Int) (x : Nat) : ∃ m, rRow xss z L x = L ++ m := by
  induction x with
  | zero => exact ⟨[], by simp [rRow]⟩
  | succ x ih =>
    obtain ⟨m, e⟩ := ih
    obtain ⟨m2, e2⟩ := addZ_pre (rRow xss z L x) (toZ xss z x)
    exact ⟨m ++ m2, by rw [rRow_succ, e2, e, List.append_assoc]⟩
theorem rRow_len (xss : List (List Int)) (z : Int) (L : List Int) (x : Nat) : L.length ≤ (rRow xss z L x).length := by obtain ⟨m, e⟩ := rRow_pre xss z L x; rw [e]; simp
theorem rRow_get (xss : List (List Int)) (z : Int) (L : List Int) (x : Nat) {i : Nat} (h : i < L.length) : (rRow xss z L x).getD i 0 = L.getD i 0 := by
  obtain ⟨m, e⟩ := rRow_pre xss z L x
  rw [e]; simp [List.getD_eq_getElem?_getD, List.getElem?_append, h]
def reachOf (xss : List (List Int)) (s : Int) : List Int := rTo xss s 1024
theorem reach_stop {xss : List (List Int)} {s : Int} {i : Nat} (h : (rTo xss s i).length ≤ i) (hi : i ≤ 1024) : rTo xss s i = reachOf xss s := by
  have := rTo_stop h (1024 - i)
  rw [show i + (1024 - i) = 1024 by omega] at this
  exact this.symm

theorem sub_len {A B : List Int} (hA : A.Nodup) (h : ∀ x ∈ A, x ∈ B) : A.length ≤ B.length := by
  induction A generalizing B with
  | nil => simp
  | cons a A ih =>
    obtain ⟨h1, h2⟩ := List.nodup_cons.1 hA
    have ha := h a (List.mem_cons_self ..)
    have h3 := ih (B := B.erase a) h2 fun x hx => (List.mem_erase_of_ne fun e => h1 (by rw [← e]; exact hx)).2 (h x (List.mem_cons_of_mem _ hx))
    rw [List.length_erase_of_mem ha] at h3
    have : 0 < B.length := List.length_pos_of_mem ha
    rw [List.length_cons]
    omega
/-- no number twice, all of them states -/
structure Dist (n : Nat) (L : List Int) : Prop where
  nd : L.Nodup
  bd : ∀ z ∈ L, 0 ≤ z ∧ z < n
theorem Dist.le {n : Nat} {L : List Int} (h : Dist n L) : L.length ≤ n := by
  have := sub_len h.nd (B := (List.range n).map fun (k : Nat) => (k : Int)) fun x hx => by
    have := h.bd x hx
    exact List.mem_map.2 ⟨x.toNat, List.mem_range.2 (by omega), by omega⟩
  simpa using this
theorem Dist.add {n : Nat} {L : List Int} (h : Dist n L) {t : Int} (ht : 0 ≤ t ∧ t < n) : Dist n (addZ L t) := by
  unfold addZ
  split
  · exact h
  · rename_i hn
    refine ⟨List.nodup_append.2 ⟨h.nd, by simp, fun a ha b hb e => ?_⟩, fun z hz => ?_⟩
    · simp at hb; subst hb; subst e; exact hn ha
    · rcases List.mem_append.1 hz with hz | hz
      · exact h.bd z hz
      · simp at hz; subst hz; exact ht
theorem Good.toZ {st : Int} {n : Nat} {xss : List (List Int)} (hg : Good st n xss) {z : Int} (hz : 0 ≤ z ∧ z < n) {x : Nat} (hx : x < xss.length) : 0 ≤ toZ xss z x ∧ toZ xss z x < n := hg.val hx (by omega)
theorem Dist.row {st : Int} {n : Nat} {xss : List (List Int)} (hg : Good st n xss) {z : Int} (hz : 0 ≤ z ∧ z < n) {L : List Int} (h : Dist n L) : ∀ x, x ≤ xss.length → Dist n (rRow xss z L x) := by
  intro x
  induction x with
  | zero => intro _; exact h
  | succ x ih => intro hx; rw [rRow_succ]; exact (ih (by omega)).add (hg.toZ hz (by omega))
theorem rTo_dist {st : Int} {n : Nat} {xss : List (List Int)} (hg : Good st n xss) {s : Int} (hs : 0 ≤ s ∧ s < n) : ∀ i, Dist n (rTo xss s i) := by
  intro i
  induction i with
  | zero => exact ⟨by simp [rTo], fun z hz => by simp [rTo] at hz; subst hz; exact hs⟩
  | succ i ih =>
    rw [rTo]
    split
    · rename_i h
      exact Dist.row hg (ih.bd _ (mem_getD h)) ih _ (Nat.le_refl _)
    · exact ih
theorem reach_dist {st : Int} {n : Nat} {xss : List (List Int)} (hg : Good st n xss) {s : Int} (hs : 0 ≤ s ∧ s < n) : Dist n (reachOf xss s) := rTo_dist hg hs _

/-- numbers put to their places -/
def putAll (L : List Int) : List Int := L.foldl putZ []
theorem putAll_snoc (L : List Int) (t : Int) : putAll (L ++ [t]) = putZ (putAll L) t := by simp [putAll, List.foldl_append]
theorem mem_putZ {zs : List Int} {z x : Int} : x ∈ putZ zs z ↔ x ∈ zs ∨ x = z := by
  induction zs with
  | nil => simp [putZ]
  | cons y ys ih =>
    unfold putZ
    split
    · simp [ih, or_assoc]
    · split
      · rename_i h
        subst h
        rw [List.mem_cons]
        exact ⟨fun h => .inl h, fun h => h.elim id .inl⟩
      · simp
        constructor
        · rintro (h | h | h)
          · exact .inr h
          · exact .inl (.inl h)
          · exact .inl (.inr h)
        · rintro ((h | h) | h)
          · exact .inr (.inl h)
          · exact .inr (.inr h)
          · exact .inl h
theorem putZ_sorted {zs : List Int} {z : Int} (h : zs.Pairwise (· < ·)) : (putZ zs z).Pairwise (· < ·) := by
  induction zs with
  | nil => simp [putZ]
  | cons y ys ih =>
    obtain ⟨h1, h2⟩ := List.pairwise_cons.1 h
    unfold putZ
    split
    · rename_i hlt
      refine List.pairwise_cons.2 ⟨fun x hx => ?_, ih h2⟩
      rcases mem_putZ.1 hx with hx | rfl
      · exact h1 x hx
      · exact hlt
    · split
      · exact h
      · rename_i h3 h4
        refine List.pairwise_cons.2 ⟨fun x hx => ?_, h⟩
        rcases List.mem_cons.1 hx with rfl | hx
        · omega
        · have := h1 x hx; omega
theorem putAll_fold {L A : List Int} (hA : A.Pairwise (· < ·)) : (L.foldl putZ A).Pairwise (· < ·) ∧ ∀ x, x ∈ L.foldl putZ A ↔ x ∈ A ∨ x ∈ L := by
  induction L generalizing A with
  | nil => exact ⟨hA, fun x => by simp⟩
  | cons t L ih =>
    obtain ⟨h1, h2⟩ := ih (putZ_sorted (z := t) hA)
    refine ⟨h1, fun x => ?_⟩
    rw [List.foldl_cons, h2, mem_putZ, List.mem_cons, or_assoc]
theorem putAll_sorted (L : List Int) : (putAll L).Pairwise (· < ·) := (putAll_fold List.Pairwise.nil).1
theorem mem_putAll {L : List Int} {x : Int} : x ∈ putAll L ↔ x ∈ L := by
  have := (putAll_fold (L := L) List.Pairwise.nil).2 x
  simpa [putAll] using this
theorem nodup_of_sorted {L : List Int} (h : L.Pairwise (· < ·)) : L.Nodup := h.imp (fun {a b} hab => by omega)
/-- rising lists with the same members are one -/
theorem sorted_ext {A B : List Int} (hA : A.Pairwise (· < ·)) (hB : B.Pairwise (· < ·)) (h : ∀ x, x ∈ A ↔ x ∈ B) : A = B := by
  induction A generalizing B with
  | nil =>
    cases B with
    | nil => rfl
    | cons b B => exact absurd ((h b).2 (List.mem_cons_self ..)) (by simp)
  | cons a A ih =>
    cases B with
    | nil => exact absurd ((h a).1 (List.mem_cons_self ..)) (by simp)
    | cons b B =>
      obtain ⟨a1, a2⟩ := List.pairwise_cons.1 hA
      obtain ⟨b1, b2⟩ := List.pairwise_cons.1 hB
      have hab : a = b := by
        rcases List.mem_cons.1 ((h a).1 (List.mem_cons_self ..)) with e | e
        · exact e
        · rcases List.mem_cons.1 ((h b).2 (List.mem_cons_self ..)) with e' | e'
          · exact e'.symm
          · have := b1 a e; have := a1 b e'; omega
      subst hab
      congr 1
      refine ih a2 b2 fun x => ⟨fun hx => ?_, fun hx => ?_⟩
      · rcases List.mem_cons.1 ((h x).1 (List.mem_cons_of_mem _ hx)) with e | e
        · have := a1 x hx; omega
        · exact e
      · rcases List.mem_cons.1 ((h x).2 (List.mem_cons_of_mem _ hx)) with e | e
        · have := b1 x hx; omega
        · exact e
theorem perm_len {A B : List Int} (hA : A.Nodup) (hB : B.Nodup) (h : ∀ x, x ∈ A ↔ x ∈ B) : A.length = B.length :=
  Nat.le_antisymm (sub_len hA fun x hx => (h x).1 hx) (sub_len hB fun x hx => (h x).2 hx)
theorem putAll_len {L : List Int} (h : L.Nodup) : (putAll L).length = L.length := perm_len (nodup_of_sorted (putAll_sorted L)) h fun x => mem_putAll
theorem putAll_add (L : List Int) (t : Int) : putAll (addZ L t) = if t ∈ L then putAll L else putZ (putAll L) t := by
  unfold addZ
  split
  · rfl
  · exact putAll_snoc _ _

/-- the states that can be reached, rising -/
def rcZs (xss : List (List Int)) (s : Int) : List Int := putAll (reachOf xss s)
theorem rcZs_len {st : Int} {n : Nat} {xss : List (List Int)} (hg : Good st n xss) {s : Int} (hs : 0 ≤ s ∧ s < n) : (rcZs xss s).length ≤ n := by
  rw [rcZs, putAll_len (reach_dist hg hs).nd]
  exact (reach_dist hg hs).le

/-- all states lead to all -/
def joinedB (xss : List (List Int)) (n : Nat) : Bool := (List.range n).all fun s => decide ((rcZs xss (s : Int)).length = n)
theorem joined_no {xss : List (List Int)} {n s : Nat} (hs : s < n) (h : (rcZs xss (s : Int)).length ≠ n) : joinedB xss n = false := by
  unfold joinedB
  rw [List.all_eq_false]
  exact ⟨s, List.mem_range.2 hs, by simp [h]⟩
theorem joined_yes {xss : List (List Int)} {n : Nat} (h : ∀ s, s < n → (rcZs xss (s : Int)).length = n) : joinedB xss n = true := by
  unfold joinedB
  rw [List.all_eq_true]
  intro s hs
  exact decide_eq_true (h s (List.mem_range.1 hs))

/-- what is left of L behind k rounds of the sink -/
def skTo (xss : List (List Int)) (L : List Int) (k : Nat) : List Int := L.filter fun z => (List.range k).all fun s => (rcZs xss (s : Int)).contains z
theorem skTo_zero (xss : List (List Int)) (L : List Int) : skTo xss L 0 = L := by simp [skTo]
theorem skTo_succ (xss : List (List Int)) (L : List Int) (k : Nat) : skTo xss L (k + 1) = (skTo xss L k).filter fun z => (rcZs xss (k : Int)).contains z := by
  unfold skTo
  rw [List.filter_filter]
  refine List.filter_congr fun z _ => ?_
  rw [List.range_succ, List.all_append, Bool.and_comm]
  simp
theorem skTo_le (xss : List (List Int)) (L : List Int) (k : Nat) : (skTo xss L k).length ≤ L.length := List.length_filter_le _ _
def allZ (n : Nat) : List Int := (List.range n).map fun (k : Nat) => (k : Int)
theorem allZ_sorted (n : Nat) : (allZ n).Pairwise (· < ·) := by
  unfold allZ
  rw [List.pairwise_map]
  exact List.pairwise_lt_range.imp fun {a b} h => by omega
def skZs (xss : List (List Int)) (n : Nat) : List Int := skTo xss (allZ n) n
theorem skZs_len (xss : List (List Int)) (n : Nat) : (skZs xss n).length ≤ n := by
  have := skTo_le xss (allZ n) n
  have e : (allZ n).length = n := by simp [allZ]
  rw [e] at this
  exact this
theorem sk_from {st : Int} {n : Nat} {xss : List (List Int)} (hg : Good st n xss) : skTo xss (rcZs xss 0) n = skZs xss n := by
  have hn := hg.lo
  refine sorted_ext ((putAll_sorted _).filter _) ((allZ_sorted n).filter _) fun x => ?_
  unfold skZs skTo
  rw [List.mem_filter, List.mem_filter]
  constructor
  · rintro ⟨h1, h2⟩
    have := (reach_dist hg (s := 0) ⟨by omega, by omega⟩).bd x (mem_putAll.1 h1)
    exact ⟨List.mem_map.2 ⟨x.toNat, List.mem_range.2 (by omega), by omega⟩, h2⟩
  · rintro ⟨h1, h2⟩
    have := List.all_eq_true.1 h2 0 (List.mem_range.2 (by omega))
    exact ⟨by simpa using this, h2⟩

end Go.Proofs.Ytlgnbbfhejjodaa
