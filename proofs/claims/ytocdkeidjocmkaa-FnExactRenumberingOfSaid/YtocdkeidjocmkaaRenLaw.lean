/- RenumberingOf: the least renumbering; what the reference and the program do, plainly. -/
namespace Go.Proofs.Ytocdkeidjocmkaa
set_option linter.unusedVariables false
set_option linter.unusedSimpArgs false

/-- a renumbering: p takes the states of b to those of a -/
structure Iso (n m : Nat) (a b : List (List Int)) (p : List Int) : Prop where
  len : p.length = n
  rng : ∀ i, i < n → 0 ≤ p.getD i 0 ∧ p.getD i 0 < n
  inj : ∀ i j, i < n → j < n → i ≠ j → p.getD i 0 ≠ p.getD j 0
  hom : ∀ x, x < m → ∀ i, i < n → p.getD ((b.getD x []).getD i 0).toNat 0 = (a.getD x []).getD (p.getD i 0).toNat 0
def ExtP (n : Nat) (o p : List Int) : Prop := ∀ i, i < n → 0 ≤ o.getD i 0 → p.getD i 0 = o.getD i 0
def LexLe (n : Nat) (r p : List Int) : Prop := r = p ∨ ∃ k, k < n ∧ (∀ j, j < k → r.getD j 0 = p.getD j 0) ∧ r.getD k 0 < p.getD k 0
structure LeastP (n m : Nat) (a b : List (List Int)) (o r : List Int) : Prop where
  iso : Iso n m a b r
  ext : ExtP n o r
  min : ∀ p, Iso n m a b p → ExtP n o p → LexLe n r p
def NoP (n m : Nat) (a b : List (List Int)) (o : List Int) : Prop := ∀ p, Iso n m a b p → ¬ ExtP n o p
def AnsP (n m : Nat) (a b : List (List Int)) (o : List Int) : Option (List Int) → Prop
  | some r => LeastP n m a b o r
  | none => NoP n m a b o
theorem LexLe.antisymm {n : Nat} {r p : List Int} (h : LexLe n r p) (h' : LexLe n p r) : r = p := by
  rcases h with h | ⟨k, hk, he, hl⟩
  · exact h
  · rcases h' with h' | ⟨k', hk', he', hl'⟩
    · exact h'.symm
    · exfalso
      rcases Nat.lt_trichotomy k k' with h1 | h1 | h1
      · have := he' k h1; omega
      · subst h1; omega
      · have := he k' h1; omega
theorem AnsP.unique {n m : Nat} {a b : List (List Int)} {o : List Int} {x y : Option (List Int)} (hx : AnsP n m a b o x) (hy : AnsP n m a b o y) : x = y := by
  cases x with
  | none =>
    cases y with
    | none => rfl
    | some r => exact absurd hy.ext (hx r hy.iso)
  | some r =>
    cases y with
    | none => exact absurd hx.ext (hy r hx.iso)
    | some r' => rw [LexLe.antisymm (hx.min r' hy.iso hy.ext) (hy.min r hx.iso hx.ext)]

theorem gset_same {o : List Int} {i : Nat} {s : Int} (h : i < o.length) : (o.set i s).getD i 0 = s := by simp [List.getD_eq_getElem?_getD, h]
theorem gset_other {o : List Int} {i j : Nat} {s : Int} (h : j ≠ i) : (o.set i s).getD j 0 = o.getD j 0 := by simp [List.getD_eq_getElem?_getD, h.symm]
theorem gmem {o : List Int} {i : Nat} (h : i < o.length) : o.getD i 0 ∈ o := by rw [List.getD_eq_getElem?_getD, List.getElem?_eq_getElem h]; exact List.getElem_mem h
theorem gmem_iff {o : List Int} {s : Int} : s ∈ o ↔ ∃ i, i < o.length ∧ o.getD i 0 = s := by
  constructor
  · intro h
    obtain ⟨i, hi, rfl⟩ := List.getElem_of_mem h
    exact ⟨i, hi, by simp [List.getD_eq_getElem?_getD, hi]⟩
  · rintro ⟨i, hi, rfl⟩
    exact gmem hi

theorem ext_set {n : Nat} {o p : List Int} {i : Nat} {s : Int} (hl : o.length = n) (hi : i < n) (hs : 0 ≤ s) (hf : o.getD i 0 < 0) : ExtP n (o.set i s) p ↔ ExtP n o p ∧ p.getD i 0 = s := by
  constructor
  · intro h
    refine ⟨fun j hj h0 => ?_, ?_⟩
    · have hne : j ≠ i := fun e => by rw [e] at h0; omega
      have := h j hj (by rw [gset_other hne]; exact h0)
      rwa [gset_other hne] at this
    · have := h i hi (by rw [gset_same (by omega)]; exact hs)
      rwa [gset_same (by omega)] at this
  · rintro ⟨h, h2⟩ j hj h0
    by_cases hji : j = i
    · subst hji
      rw [gset_same (by omega)]
      exact h2
    · rw [gset_other hji] at h0 ⊢
      exact h j hj h0
/-- one place tried with all numbers in turn -/
theorem AnsP.split_yes {n m : Nat} {a b : List (List Int)} {o r : List Int} {i s : Nat} (hl : o.length = n) (hi : i < n) (hf : o.getD i 0 < 0) (hb : ∀ j, j < i → 0 ≤ o.getD j 0) (hno : ∀ t, t < s → NoP n m a b (o.set i (t : Int))) (h : LeastP n m a b (o.set i (s : Int)) r) : LeastP n m a b o r := by
  have he := (ext_set (p := r) hl hi (show (0 : Int) ≤ (s : Int) by omega) hf).1 h.ext
  refine ⟨h.iso, he.1, fun p hp hpe => ?_⟩
  have hr := hp.rng i hi
  rcases Int.lt_trichotomy (p.getD i 0) (s : Int) with h1 | h1 | h1
  · exfalso
    refine hno (p.getD i 0).toNat (by omega) p hp ((ext_set hl hi (by omega) hf).2 ⟨hpe, by omega⟩)
  · exact h.min p hp ((ext_set hl hi (by omega) hf).2 ⟨hpe, h1⟩)
  · refine .inr ⟨i, hi, fun j hj => ?_, by rw [he.2]; exact h1⟩
    rw [he.1 j (by omega) (hb j hj), hpe j (by omega) (hb j hj)]
theorem NoP.split {n m : Nat} {a b : List (List Int)} {o : List Int} {i : Nat} (hl : o.length = n) (hi : i < n) (hf : o.getD i 0 < 0) (hno : ∀ t, t < n → NoP n m a b (o.set i (t : Int))) : NoP n m a b o := by
  intro p hp hpe
  have hr := hp.rng i hi
  exact hno (p.getD i 0).toNat (by omega) p hp ((ext_set hl hi (by omega) hf).2 ⟨hpe, by omega⟩)

/-! the reference -/
def okAt (a b : List (List Int)) (o : List Int) (i x : Nat) : Bool :=
  decide (o.getD ((b.getD x []).getD i 0).toNat 0 < 0) || decide (o.getD ((b.getD x []).getD i 0).toNat 0 = (a.getD x []).getD (o.getD i 0).toNat 0)
def rowFits (a b : List (List Int)) (m : Nat) (o : List Int) (i : Nat) : Bool := decide (o.getD i 0 < 0) || (List.range m).all fun x => okAt a b o i x
def fitsB (a b : List (List Int)) (n m : Nat) (o : List Int) : Bool := (List.range n).all fun i => rowFits a b m o i
def turnF (a b : List (List Int)) (n m : Nat) : Nat → List Int → Nat → Option (List Int)
  | 0, o, _ => some o
  | f + 1, o, k => (List.range n).findSome? fun s : Nat => if (s : Int) ∈ o then none else if fitsB a b n m (o.set k (s : Int)) = true then turnF a b n m f (o.set k (s : Int)) (k + 1) else none

theorem fits_ext {a b : List (List Int)} {n m : Nat} {o p : List Int} (hb : ∀ x, x < m → ∀ i, i < n → ((b.getD x []).getD i 0).toNat < n) (hp : Iso n m a b p) (he : ExtP n o p) : fitsB a b n m o = true := by
  unfold fitsB
  rw [List.all_eq_true]
  intro i hi
  rw [List.mem_range] at hi
  unfold rowFits
  rw [Bool.or_eq_true]
  by_cases h0 : o.getD i 0 < 0
  · exact .inl (decide_eq_true h0)
  · refine .inr ?_
    rw [List.all_eq_true]
    intro x hx
    rw [List.mem_range] at hx
    unfold okAt
    rw [Bool.or_eq_true]
    by_cases h1 : o.getD ((b.getD x []).getD i 0).toNat 0 < 0
    · exact .inl (decide_eq_true h1)
    · refine .inr (decide_eq_true ?_)
      rw [← he _ (hb x hx i hi) (by omega), ← he i hi (by omega)]
      exact hp.hom x hx i hi
theorem iso_of_fits {a b : List (List Int)} {n m : Nat} {o : List Int} (hl : o.length = n) (hr : ∀ i, i < n → 0 ≤ o.getD i 0 ∧ o.getD i 0 < n) (hinj : ∀ i j, i < n → j < n → i ≠ j → o.getD i 0 ≠ o.getD j 0) (hb : ∀ x, x < m → ∀ i, i < n → ((b.getD x []).getD i 0).toNat < n) (h : fitsB a b n m o = true) : Iso n m a b o := by
  refine ⟨hl, hr, hinj, fun x hx i hi => ?_⟩
  unfold fitsB at h
  have h1 := List.all_eq_true.1 h i (List.mem_range.2 hi)
  unfold rowFits at h1
  rw [Bool.or_eq_true] at h1
  rcases h1 with h1 | h1
  · have := of_decide_eq_true h1; have := hr i hi; omega
  · have h2 := List.all_eq_true.1 h1 x (List.mem_range.2 hx)
    unfold okAt at h2
    rw [Bool.or_eq_true] at h2
    rcases h2 with h2 | h2
    · have := of_decide_eq_true h2; have := hr _ (hb x hx i hi); omega
    · exact of_decide_eq_true h2
theorem least_self {n m : Nat} {a b : List (List Int)} {o : List Int} (h : Iso n m a b o) : LeastP n m a b o o := by
  refine ⟨h, fun _ _ _ => rfl, fun p hp he => .inl ?_⟩
  refine List.ext_getElem (by rw [h.len, hp.len]) fun i h1 h2 => ?_
  have h3 := he i (by rw [← h.len]; exact h1) (h.rng i (by rw [← h.len]; exact h1)).1
  simpa [List.getD_eq_getElem?_getD, h1, h2] using h3.symm

theorem findSome_range {α : Type} {f : Nat → Option α} {n : Nat} : (∀ r, (List.range n).findSome? f = some r → ∃ s, s < n ∧ f s = some r ∧ ∀ t, t < s → f t = none) ∧ ((List.range n).findSome? f = none → ∀ t, t < n → f t = none) := by
  induction n with
  | zero => exact ⟨fun r h => by simp at h, fun _ t h => by omega⟩
  | succ n ih =>
    rw [List.range_succ, List.findSome?_append]
    refine ⟨fun r h => ?_, fun h t ht => ?_⟩
    · cases hq : (List.range n).findSome? f with
      | some q =>
        rw [hq] at h
        simp at h
        subst h
        obtain ⟨s, hs, h1, h2⟩ := ih.1 q hq
        exact ⟨s, by omega, h1, h2⟩
      | none =>
        rw [hq] at h
        simp at h
        exact ⟨n, by omega, h, ih.2 hq⟩
    · rw [Option.or_eq_none_iff] at h
      rcases Nat.lt_or_ge t n with h1 | h1
      · exact ih.2 h.1 t h1
      · obtain rfl : t = n := by omega
        simpa using h.2

theorem turnF_ans {a b : List (List Int)} {n m : Nat} (hb : ∀ x, x < m → ∀ i, i < n → ((b.getD x []).getD i 0).toNat < n) : ∀ f (o : List Int) (k : Nat), k + f = n → o.length = n → (∀ i, i < k → 0 ≤ o.getD i 0 ∧ o.getD i 0 < n) → (∀ i, k ≤ i → i < n → o.getD i 0 < 0) → (∀ i j, i < k → j < k → i ≠ j → o.getD i 0 ≠ o.getD j 0) → fitsB a b n m o = true → AnsP n m a b o (turnF a b n m f o k) := by
  intro f
  induction f with
  | zero =>
    intro o k hk hl hr hn hinj hf
    obtain rfl : k = n := by omega
    exact least_self (iso_of_fits hl hr hinj hb hf)
  | succ f ih =>
    intro o k hk hl hr hn hinj hf
    have hkn : k < n := by omega
    have hone : ∀ s, s < n → AnsP n m a b (o.set k (s : Int)) (if (s : Int) ∈ o then none else if fitsB a b n m (o.set k (s : Int)) = true then turnF a b n m f (o.set k (s : Int)) (k + 1) else none) := by
      intro s hs
      split
      · rename_i hm
        obtain ⟨j, hj, hjs⟩ := gmem_iff.1 hm
        intro p hp he
        have h2 := (ext_set (p := p) hl hkn (show (0 : Int) ≤ (s : Int) by omega) (hn k (Nat.le_refl _) hkn)).1 he
        have hne : j ≠ k := fun e => by have := hn k (Nat.le_refl _) hkn; rw [e] at hjs; omega
        refine hp.inj j k (by omega) hkn hne ?_
        rw [h2.2, h2.1 j (by omega) (by omega), hjs]
      · rename_i hm
        split
        · rename_i hfit
          refine ih _ _ (by omega) (by simp [hl]) (fun i hi => ?_) (fun i h1 h2 => ?_) (fun i j hi hj hij => ?_) hfit
          · by_cases hik : i = k
            · subst hik; rw [gset_same (by omega)]; omega
            · rw [gset_other hik]; exact hr i (by omega)
          · rw [gset_other (by omega)]; exact hn i (by omega) h2
          · by_cases hik : i = k
            · subst hik
              rw [gset_same (by omega), gset_other (by omega)]
              intro e
              exact hm (e ▸ gmem (by omega))
            · by_cases hjk : j = k
              · subst hjk
                rw [gset_same (by omega), gset_other (by omega)]
                intro e
                exact hm (e ▸ gmem (by omega))
              · rw [gset_other hik, gset_other hjk]
                exact hinj i j (by omega) (by omega) hij
        · rename_i hfit
          intro p hp he
          exact hfit (fits_ext hb hp he)
    have hsp := findSome_range (n := n) (f := fun s : Nat => if (s : Int) ∈ o then none else if fitsB a b n m (o.set k (s : Int)) = true then turnF a b n m f (o.set k (s : Int)) (k + 1) else none)
    rw [turnF]
    have hneg := hn k (Nat.le_refl _) hkn
    cases hq : (List.range n).findSome? fun s : Nat => if (s : Int) ∈ o then none else if fitsB a b n m (o.set k (s : Int)) = true then turnF a b n m f (o.set k (s : Int)) (k + 1) else none with
    | some r =>
      obtain ⟨s, hs, h1, h2⟩ := hsp.1 r hq
      have h3 := hone s hs
      rw [h1] at h3
      refine AnsP.split_yes hl hkn hneg (fun j hj => (hr j hj).1) (fun t ht => ?_) h3
      have h4 := hone t (by omega)
      rw [h2 t ht] at h4
      exact h4
    | none =>
      have h2 := hsp.2 hq
      refine NoP.split hl hkn hneg fun t ht => ?_
      have h4 := hone t ht
      rw [h2 t ht] at h4
      exact h4

/-! the program -/
structure PartP (n : Nat) (o : List Int) : Prop where
  len : o.length = n
  rng : ∀ i, i < n → -1 ≤ o.getD i 0 ∧ o.getD i 0 < n
  inj : ∀ i j, i < n → j < n → i ≠ j → 0 ≤ o.getD i 0 → o.getD i 0 ≠ o.getD j 0
def freeN (o : List Int) : Nat := o.countP fun z => decide (z < 0)
structure Forced (n m : Nat) (a b : List (List Int)) (o : List Int) (i : Nat) (s : Int) (ok : Bool) (o' : List Int) : Prop where
  part : PartP n o'
  ext : ExtP n o o'
  yes : ok = true → o'.getD i 0 = s ∧ (∀ j, j < n → o.getD j 0 < 0 → 0 ≤ o'.getD j 0 → ∀ x, x < m → o'.getD ((b.getD x []).getD j 0).toNat 0 = (a.getD x []).getD (o'.getD j 0).toNat 0) ∧ (∀ p, Iso n m a b p → ExtP n o p → p.getD i 0 = s → ExtP n o' p)
  no : ok = false → ∀ p, Iso n m a b p → ExtP n o p → p.getD i 0 = s → False
theorem ExtP.trans {n : Nat} {o p q : List Int} (h : ExtP n o p) (h' : ExtP n p q) : ExtP n o q := fun i hi h0 => by
  have := h i hi h0
  rw [h' i hi (by omega), this]
/-- the place is told already, or the number is taken -/
theorem Forced.told {n m : Nat} {a b : List (List Int)} {o : List Int} {i : Nat} {s : Int} (hp : PartP n o) (hi : i < n) (hs : 0 ≤ s) (h : 0 ≤ o.getD i 0 ∨ s ∈ o) : Forced n m a b o i s (decide (o.getD i 0 = s)) o := by
  refine ⟨hp, fun _ _ _ => rfl, fun h1 => ⟨of_decide_eq_true h1, fun j hj h2 h3 => by omega, fun p _ he _ => he⟩, fun h1 p hiso he hps => ?_⟩
  have hne := of_decide_eq_false h1
  by_cases h0 : 0 ≤ o.getD i 0
  · exact hne (by rw [← he i hi h0, hps])
  · rcases h with h | h
    · exact h0 h
    · obtain ⟨j, hj, hjs⟩ := gmem_iff.1 h
      rw [hp.len] at hj
      have hji : j ≠ i := fun e => by rw [e] at hjs; omega
      refine hiso.inj j i hj hi hji ?_
      rw [hps, he j hj (by omega), hjs]
/-- while the letters are gone through: the place i holds s, letters below l are right there, all else that is new is closed -/
structure Forcing (n m : Nat) (a b : List (List Int)) (o : List Int) (i : Nat) (s : Int) (l : Nat) (q : List Int) : Prop where
  part : PartP n q
  ext : ExtP n (o.set i s) q
  here : ∀ x, x < l → q.getD ((b.getD x []).getD i 0).toNat 0 = (a.getD x []).getD s.toNat 0
  clos : ∀ j, j < n → j ≠ i → o.getD j 0 < 0 → 0 ≤ q.getD j 0 → ∀ x, x < m → q.getD ((b.getD x []).getD j 0).toNat 0 = (a.getD x []).getD (q.getD j 0).toNat 0
  all : ∀ p, Iso n m a b p → ExtP n o p → p.getD i 0 = s → ExtP n q p
theorem PartP.set {n : Nat} {o : List Int} (hp : PartP n o) {i : Nat} {s : Int} (hi : i < n) (hs : 0 ≤ s) (hs2 : s < n) (hm : s ∉ o) : PartP n (o.set i s) := by
  refine ⟨by simp [hp.len], fun j hj => ?_, fun j k hj hk hjk h0 => ?_⟩
  · by_cases hji : j = i
    · subst hji; rw [gset_same (by rw [hp.len]; exact hj)]; omega
    · rw [gset_other hji]; exact hp.rng j hj
  · have hl := hp.len
    by_cases hji : j = i
    · subst hji
      rw [gset_same (by omega), gset_other (by omega)]
      intro e
      exact hm (e ▸ gmem (by omega))
    · rw [gset_other hji] at h0 ⊢
      by_cases hki : k = i
      · subst hki
        rw [gset_same (by omega)]
        intro e
        exact hm (e ▸ gmem (by omega))
      · rw [gset_other hki]
        exact hp.inj j k hj hk hjk h0
theorem Forcing.start {n m : Nat} {a b : List (List Int)} {o : List Int} {i : Nat} {s : Int} (hp : PartP n o) (hi : i < n) (hs : 0 ≤ s) (hs2 : s < n) (hf : o.getD i 0 < 0) (hm : s ∉ o) : Forcing n m a b o i s 0 (o.set i s) := by
  refine ⟨hp.set hi hs hs2 hm, fun _ _ _ => rfl, fun x hx => absurd hx (by omega), fun j hj hji h0 h1 => ?_, fun p hiso he hps => (ext_set hp.len hi hs hf).2 ⟨he, hps⟩⟩
  rw [gset_other hji] at h1
  omega
theorem Forcing.at {n m : Nat} {a b : List (List Int)} {o : List Int} {i : Nat} {s : Int} {l : Nat} {q : List Int} (h : Forcing n m a b o i s l q) (hl : o.length = n) (hi : i < n) (hs : 0 ≤ s) : q.getD i 0 = s := by
  have := h.ext i hi (by rw [gset_same (by omega)]; exact hs)
  rwa [gset_same (by omega)] at this
theorem Forcing.next {n m : Nat} {a b : List (List Int)} {o : List Int} {i : Nat} {s : Int} {l : Nat} {q q' : List Int} (h : Forcing n m a b o i s l q) (hl : o.length = n) (hi : i < n) (hs : 0 ≤ s) (hlm : l < m) (hbn : ∀ x, x < m → ∀ i, i < n → ((b.getD x []).getD i 0).toNat < n) (han : ∀ x, x < m → ∀ i, i < n → 0 ≤ (a.getD x []).getD i 0) (hsn : s < n)
    (hf : Forced n m a b q ((b.getD l []).getD i 0).toNat ((a.getD l []).getD s.toNat 0) true q') : Forcing n m a b o i s (l + 1) q' := by
  obtain ⟨y1, y2, y3⟩ := hf.yes rfl
  refine ⟨hf.part, h.ext.trans hf.ext, fun x hx => ?_, fun j hj hji h0 h1 x hx => ?_, fun p hiso he hps => y3 p hiso (h.all p hiso he hps) ?_⟩
  · rcases Nat.lt_or_ge x l with h1 | h1
    · have h2 := h.here x h1
      rw [hf.ext _ (hbn x (by omega) i hi) (by rw [h2]; exact han x (by omega) _ (by omega)), h2]
    · obtain rfl : x = l := by omega
      exact y1
  · by_cases hq : 0 ≤ q.getD j 0
    · have h2 := h.clos j hj hji h0 hq x hx
      have hrng := (h.part.rng j hj).2
      have h3 := hf.ext j hj hq
      rw [h3, hf.ext _ (hbn x hx j hj) (by rw [h2]; exact han x hx _ (by omega)), h2]
    · exact y2 j hj (by omega) h1 x hx
  · rw [hiso.hom l hlm i hi, hps]
theorem Forcing.fail {n m : Nat} {a b : List (List Int)} {o : List Int} {i : Nat} {s : Int} {l : Nat} {q q' : List Int} (h : Forcing n m a b o i s l q) (hpo : PartP n o) (hi : i < n) (hs : 0 ≤ s) (hfr : o.getD i 0 < 0) (hlm : l < m)
    (hf : Forced n m a b q ((b.getD l []).getD i 0).toNat ((a.getD l []).getD s.toNat 0) false q') : Forced n m a b o i s false q' := by
  refine ⟨hf.part, ((ext_set hpo.len hi hs hfr).1 (h.ext.trans hf.ext)).1, fun h => (by cases h), fun _ p hiso he hps => hf.no rfl p hiso (h.all p hiso he hps) ?_⟩
  rw [hiso.hom l hlm i hi, hps]
theorem Forcing.done {n m : Nat} {a b : List (List Int)} {o : List Int} {i : Nat} {s : Int} {q : List Int} (h : Forcing n m a b o i s m q) (hpo : PartP n o) (hi : i < n) (hs : 0 ≤ s) (hfr : o.getD i 0 < 0) : Forced n m a b o i s true q := by
  have hat := h.at hpo.len hi hs
  refine ⟨h.part, ((ext_set hpo.len hi hs hfr).1 h.ext).1, fun _ => ⟨hat, fun j hj h0 h1 x hx => ?_, h.all⟩, fun h => (by cases h)⟩
  by_cases hji : j = i
  · subst hji
    rw [hat]
    exact h.here x hx
  · exact h.clos j hj hji h0 h1 x hx
theorem freeN_le : ∀ {o q : List Int}, q.length = o.length → (∀ j, j < o.length → q.getD j 0 < 0 → o.getD j 0 < 0) → freeN q ≤ freeN o := by
  intro o
  induction o with
  | nil => intro q hl _; have : q = [] := List.eq_nil_of_length_eq_zero hl; subst this; exact Nat.le_refl _
  | cons x xs ih =>
    intro q hl h
    cases q with
    | nil => simp at hl
    | cons y ys =>
      have h1 := ih (q := ys) (by simpa using hl) (fun j hj hy => by have := h (j + 1) (by simp; omega) (by simpa using hy); simpa using this)
      have h2 := h 0 (by simp)
      simp only [List.getD_cons_zero] at h2
      unfold freeN at h1 ⊢
      rw [List.countP_cons, List.countP_cons]
      by_cases hy : y < 0
      · have := h2 hy; simp [hy, this]; exact h1
      · simp [hy]; omega
theorem freeN_lt {o q : List Int} {i : Nat} {s : Int} (hl : q.length = o.length) (hi : i < o.length) (hfr : o.getD i 0 < 0) (hs : 0 ≤ s) (h : ExtP o.length (o.set i s) q) : freeN q < freeN o := by
  have h1 : freeN q ≤ freeN (o.set i s) := freeN_le (by simp [hl]) fun j hj hq => by
    rw [List.length_set] at hj
    apply Classical.byContradiction
    intro hn
    have := h j hj (by omega)
    omega
  have h2 : freeN (o.set i s) < freeN o := by
    unfold freeN
    rw [List.countP_set hi]
    have hg : o[i] < 0 := by simpa [List.getD_eq_getElem?_getD, hi] using hfr
    have hpos : 0 < List.countP (fun z => decide (z < 0)) o := List.countP_pos_iff.2 ⟨o[i], List.getElem_mem hi, by simpa using hg⟩
    simp [hg, show ¬ s < 0 by omega]
    omega
  omega

/-- all that is told is closed -/
def ClosedP (n m : Nat) (a b : List (List Int)) (o : List Int) : Prop := ∀ j, j < n → 0 ≤ o.getD j 0 → ∀ x, x < m → o.getD ((b.getD x []).getD j 0).toNat 0 = (a.getD x []).getD (o.getD j 0).toNat 0
theorem Forced.closed {n m : Nat} {a b : List (List Int)} {o : List Int} {i : Nat} {s : Int} {q : List Int} (h : Forced n m a b o i s true q) (hpo : PartP n o) (hc : ClosedP n m a b o) (hbn : ∀ x, x < m → ∀ i, i < n → ((b.getD x []).getD i 0).toNat < n) (han : ∀ x, x < m → ∀ i, i < n → 0 ≤ (a.getD x []).getD i 0) : ClosedP n m a b q := by
  obtain ⟨y1, y2, y3⟩ := h.yes rfl
  intro j hj h0 x hx
  by_cases ho : 0 ≤ o.getD j 0
  · have h1 := hc j hj ho x hx
    have h2 := (hpo.rng j hj).2
    rw [h.ext j hj ho, h.ext _ (hbn x hx j hj) (by rw [h1]; exact han x hx _ (by omega)), h1]
  · exact y2 j hj (by omega) h0 x hx
theorem iso_of_closed {n m : Nat} {a b : List (List Int)} {o : List Int} (hpo : PartP n o) (hc : ClosedP n m a b o) (hall : ∀ i, i < n → 0 ≤ o.getD i 0) : Iso n m a b o :=
  ⟨hpo.len, fun i hi => ⟨hall i hi, (hpo.rng i hi).2⟩, fun i j hi hj hij => hpo.inj i j hi hj hij (hall i hi), fun x hx i hi => hc i hi (hall i hi) x hx⟩
theorem Forced.ans {n m : Nat} {a b : List (List Int)} {o : List Int} {i : Nat} {s : Int} {q : List Int} {x : Option (List Int)} (h : Forced n m a b o i s true q) (hpo : PartP n o) (hi : i < n) (hs : 0 ≤ s) (hfr : o.getD i 0 < 0) (ha : AnsP n m a b q x) : AnsP n m a b (o.set i s) x := by
  obtain ⟨y1, y2, y3⟩ := h.yes rfl
  have hiff : ∀ p, Iso n m a b p → (ExtP n (o.set i s) p ↔ ExtP n q p) := fun p hp => by
    constructor
    · intro he
      obtain ⟨e1, e2⟩ := (ext_set hpo.len hi hs hfr).1 he
      exact y3 p hp e1 e2
    · intro he
      refine (ext_set hpo.len hi hs hfr).2 ⟨h.ext.trans he, ?_⟩
      rw [he i hi (by omega), y1]
  cases x with
  | none => exact fun p hp he => ha p hp ((hiff p hp).1 he)
  | some r => exact ⟨ha.iso, (hiff r ha.iso).2 ha.ext, fun p hp he => ha.min p hp ((hiff p hp).1 he)⟩
theorem Forced.nop {n m : Nat} {a b : List (List Int)} {o : List Int} {i : Nat} {s : Int} {q : List Int} (h : Forced n m a b o i s false q) (hpo : PartP n o) (hi : i < n) (hs : 0 ≤ s) (hfr : o.getD i 0 < 0) : NoP n m a b (o.set i s) := fun p hp he => by
  obtain ⟨e1, e2⟩ := (ext_set hpo.len hi hs hfr).1 he
  exact h.no rfl p hp e1 e2
theorem partP_none (n : Nat) : PartP n (List.replicate n (-1)) := by
  have hg : ∀ i, i < n → (List.replicate n (-1 : Int)).getD i 0 = -1 := fun i hi => by simp [List.getD_eq_getElem?_getD, hi]
  refine ⟨by simp, fun i hi => by rw [hg i hi]; omega, fun i j hi hj hij h0 => ?_⟩
  rw [hg i hi] at h0
  omega
theorem turn_ans {a b : List (List Int)} {n m : Nat} (hb : ∀ x, x < m → ∀ i, i < n → ((b.getD x []).getD i 0).toNat < n) : AnsP n m a b (List.replicate n (-1)) (turnF a b n m n (List.replicate n (-1)) 0) := by
  have hg : ∀ i, i < n → (List.replicate n (-1 : Int)).getD i 0 = -1 := fun i hi => by simp [List.getD_eq_getElem?_getD, hi]
  refine turnF_ans hb n _ 0 (by omega) (by simp) (fun i hi => absurd hi (by omega)) (fun i _ hi => by rw [hg i hi]; omega) (fun i j hi => absurd hi (by omega)) ?_
  unfold fitsB
  rw [List.all_eq_true]
  intro i hi
  rw [List.mem_range] at hi
  unfold rowFits
  rw [hg i hi]
  rfl
end Go.Proofs.Ytocdkeidjocmkaa
