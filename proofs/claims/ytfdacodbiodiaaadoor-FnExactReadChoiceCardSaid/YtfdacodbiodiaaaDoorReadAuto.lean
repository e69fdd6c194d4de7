/- PLAIN: the text of an automaton: read back, and fixed by what a strict reading finds. -/
import Derived.Test.YtfdacodbiodiaaaDoorReadLaw
namespace Go.Proofs.YtfdacodbiodiaaaDoor
set_option linter.unusedVariables false
set_option linter.unusedSimpArgs false

theorem digS_ge : ∀ (l : List UInt8) (n z : Int), 0 ≤ n → digS n l = some z → n ≤ z
  | [], n, z, h0, h => by
    have : n = z := by simpa [digS] using h
    omega
  | c :: r, n, z, h0, h => by
    unfold digS at h
    split at h
    · cases h
    · have := digS_ge r _ z (by omega) h
      omega

theorem digS_ge_ten (c : UInt8) (r : List UInt8) (n z : Int) (h0 : 0 ≤ n) (h : digS n (c :: r) = some z) : n * 10 + ((c.toNat - 48 : Nat) : Int) ≤ z ∧ 48 ≤ c ∧ c ≤ 57 := by
  unfold digS at h
  split at h
  · cases h
  · rename_i hc
    refine ⟨digS_ge r _ z (by omega) h, ?_, ?_⟩
    · exact Nat.le_of_not_lt (fun e => hc (Or.inl e))
    · exact Nat.le_of_not_lt (fun e => hc (Or.inr e))

theorem numS_dec {l : List UInt8} {z : Int} (h : numS l = some z) : 0 ≤ z ∧ (z ≤ 10 → l = (decG z).data.toList) := by
  unfold numS at h
  split at h
  · cases h
  · rename_i hn
    have hge := digS_ge l 0 z (by omega) h
    refine ⟨hge, fun hz => ?_⟩
    cases l with
    | nil => exact absurd (Or.inl (by simp)) hn
    | cons c r =>
      obtain ⟨h1, h2, h3⟩ := digS_ge_ten c r 0 z (by omega) h
      have h2' : 48 ≤ c.toNat := h2
      have h3' : c.toNat ≤ 57 := h3
      cases r with
      | nil =>
        have e : z = ((c.toNat - 48 : Nat) : Int) := by
          unfold digS at h
          split at h
          · cases h
          · have : (0 : Int) * 10 + ((c.toNat - 48 : Nat) : Int) = z := by simpa [digS] using h
            omega
        have ez : 48 + z.toNat = c.toNat := by omega
        unfold decG
        rw [if_pos (by omega), ez]
        simp
      | cons d r =>
        have hc0 : c ≠ 48 := fun e => hn (Or.inr (Or.inr ⟨by rw [e]; rfl, by simp⟩))
        have hc1 : c.toNat ≠ 48 := fun e => hc0 (UInt8.toNat_inj.1 e)
        have hd : digS (0 * 10 + ((c.toNat - 48 : Nat) : Int)) (d :: r) = some z := by
          unfold digS at h
          split at h
          · cases h
          · exact h
        obtain ⟨g1, g2, g3⟩ := digS_ge_ten d r _ z (by omega) hd
        have g2' : 48 ≤ d.toNat := g2
        cases r with
        | nil =>
          have e : (0 * 10 + ((c.toNat - 48 : Nat) : Int)) * 10 + ((d.toNat - 48 : Nat) : Int) = z := by
            unfold digS at hd
            split at hd
            · cases hd
            · simpa [digS] using hd
          have ec : c = 49 := UInt8.toNat_inj.1 (show c.toNat = 49 by omega)
          have ed : d = 48 := UInt8.toNat_inj.1 (show d.toNat = 48 by omega)
          have ez : z = 10 := by omega
          subst ec; subst ed; subst ez
          decide +kernel
        | cons f r =>
          have hf : digS ((0 * 10 + ((c.toNat - 48 : Nat) : Int)) * 10 + ((d.toNat - 48 : Nat) : Int)) (f :: r) = some z := by
            unfold digS at hd
            split at hd
            · cases hd
            · exact hd
          obtain ⟨k1, k2, k3⟩ := digS_ge_ten f r _ z (by omega) hf
          omega

theorem allS_dec : ∀ (ws : List (List UInt8)) (zs : List Int), allS numS ws = some zs → (∀ z ∈ zs, z ≤ 10) → ws = zs.map (fun z => (decG z).data.toList)
  | [], zs, h, _ => by
    have : zs = [] := by simpa [allS] using h.symm
    subst this; rfl
  | x :: xs, zs, h, hz => by
    rw [allS] at h
    cases e : numS x with
    | none => rw [e] at h; cases h
    | some y =>
      rw [e] at h
      simp only [] at h
      cases e2 : allS numS xs with
      | none => rw [e2] at h; cases h
      | some ys =>
        rw [e2] at h
        have : zs = y :: ys := by simpa using h.symm
        subst this
        rw [List.map_cons, ← allS_dec xs ys e2 (fun z hz' => hz z (List.mem_cons_of_mem _ hz')), ← (numS_dec e).2 (hz y (List.mem_cons_self ..))]

theorem getLast_snoc {α : Type} (h : α) (ls : List α) (z : α) (p : h :: (ls ++ [z]) ≠ []) : (h :: (ls ++ [z])).getLast p = z := by
  rw [List.getLast_cons (by simp)]; simp

theorem allS_pos : ∀ (ws : List (List UInt8)) (zs : List Int), allS numS ws = some zs → ∀ z ∈ zs, 0 ≤ z
  | [], zs, h => by
    have : zs = [] := by simpa [allS] using h.symm
    subst this; simp
  | x :: xs, zs, h => by
    rw [allS] at h
    cases e : numS x with
    | none => rw [e] at h; cases h
    | some y =>
      rw [e] at h
      simp only [] at h
      cases e2 : allS numS xs with
      | none => rw [e2] at h; cases h
      | some ys =>
        rw [e2] at h
        have : zs = y :: ys := by simpa using h.symm
        subst this
        intro z hz
        rcases List.mem_cons.1 hz with e3 | e3
        · rw [e3]; exact (numS_dec e).1
        · exact allS_pos xs ys e2 z e3

def rowA (l : List UInt8) : Option (List Int) := if (cutL 32 l).headD [] = letG.data.toList then allS numS ((cutL 32 l).drop 1) else none
def autS (t : List UInt8) : Option (Int × List (List Int)) :=
  match allS numS ((cutL 32 ((cutL 10 t).headD [])).drop 1) with
  | some [a, b] =>
    if (cutL 32 ((cutL 10 t).headD [])).headD [] = autG.data.toList ∧ (cutL 10 t).getLast (cutL_ne 10 t) = [] ∧ ((cutL 10 t).length : Int) = b + 2 then
      match allS rowA (((cutL 10 t).drop 1).dropLast) with
      | none => none
      | some xss => some (a, xss)
    else none
  | _ => none
def autL (t : List UInt8) : Int × List (List Int) := ((linesL t).1, (linesL t).2.map (fun w => w.map numL))

/-- AN AUTOMATON's TEXT is read back, strictly and loosely. -/
theorem auto_read (st : Int) (xss : List (List Int)) (hs0 : 0 ≤ st) (hs1 : st ≤ 10) (hx : xss.length ≤ 10) (hc : ∀ r ∈ xss, ∀ z ∈ r, 0 ≤ z ∧ z ≤ 10) :
    autS (rowsG decG (lineG decG autG [st, xss.length]) letG xss).data.toList = some (st, xss)
    ∧ autL (rowsG decG (lineG decG autG [st, xss.length]) letG xss).data.toList = (st, xss) := by
  have ok : ∀ r ∈ xss, ∀ z ∈ r, NumOk z := fun r hr z hz => num_ok (hc r hr z hz).1 (hc r hr z hz).2
  have h10 : ∀ r ∈ xss, ∀ z ∈ r, (10 : UInt8) ∉ (decG z).data.toList := fun r hr z hz => (ok r hr z hz).a
  have h32 : ∀ r ∈ xss, ∀ z ∈ r, (32 : UInt8) ∉ (decG z).data.toList := fun r hr z hz => (ok r hr z hz).b
  obtain ⟨h1, h2⟩ := table_read decG autG st xss hs0 hs1 hx (by decide +kernel) (by decide +kernel) h10 h32
  have o1 := num_ok hs0 hs1
  have o2 := num_ok (z := (xss.length : Int)) (by omega) (by omega)
  have two : ∀ (P : Int → Prop), P st → P (xss.length : Int) → ∀ z ∈ [st, (xss.length : Int)], P z := by
    intro P p1 p2 z hz
    rcases List.mem_cons.1 hz with e | e
    · rw [e]; exact p1
    · have : z = (xss.length : Int) := by simpa using e
      rw [this]; exact p2
  have hcut := table_cut decG decG autG letG [st, (xss.length : Int)] xss (by decide +kernel) (by decide +kernel) (two (fun z => (10 : UInt8) ∉ (decG z).data.toList) o1.a o2.a) h10
  have hhead : cutL 32 (joinL 32 (wordsG decG autG [st, (xss.length : Int)])) = wordsG decG autG [st, (xss.length : Int)] :=
    line_cut decG autG _ (by decide +kernel) (two (fun z => (32 : UInt8) ∉ (decG z).data.toList) o1.b o2.b)
  refine ⟨?_, ?_⟩
  · unfold autS
    simp only [hcut, List.headD_cons, hhead]
    have e1 : allS numS ((wordsG decG autG [st, (xss.length : Int)]).drop 1) = some [st, (xss.length : Int)] := by
      show allS numS ([st, (xss.length : Int)].map (fun z => (decG z).data.toList)) = _
      rw [allS_map numS (fun z => (decG z).data.toList) id [st, (xss.length : Int)] (two _ o1.s o2.s)]
      rfl
    rw [e1]
    simp only [List.drop_succ_cons, List.drop_zero, List.dropLast_concat]
    rw [if_pos (show _ ∧ _ ∧ _ from ?_)]
    rotate_left
    · refine ⟨rfl, ?_, ?_⟩
      · exact getLast_snoc _ _ _ _
      · simp; omega
    rw [allS_map rowA (fun r => joinL 32 (wordsG decG letG r)) id xss (by
      intro r hr
      unfold rowA
      rw [line_cut decG letG r (by decide +kernel) (h32 r hr), if_pos (show (wordsG decG letG r).headD [] = letG.data.toList from rfl)]
      show allS numS (r.map (fun z => (decG z).data.toList)) = _
      rw [allS_map numS (fun z => (decG z).data.toList) id r (fun z hz => (ok r hr z hz).s), List.map_id]; rfl)]
    simp
  · unfold autL
    rw [h2]
    refine Prod.ext rfl ?_
    show (xss.map (fun r => r.map (fun z => (decG z).data.toList))).map (fun w => w.map numL) = xss
    rw [List.map_map]
    conv => rhs; rw [← List.map_id xss]
    refine List.map_congr_left (fun r hr => ?_)
    show (r.map (fun z => (decG z).data.toList)).map numL = r
    rw [List.map_map]
    conv => rhs; rw [← List.map_id r]
    exact List.map_congr_left (fun z hz => (ok r hr z hz).l)

theorem head_join (c : UInt8) (l : List UInt8) (n : List UInt8) (h : (cutL c l).headD [] = n) : l = joinL c (n :: (cutL c l).drop 1) := by
  have e := joinL_cutL c l
  cases hc : cutL c l with
  | nil => exact absurd hc (cutL_ne c l)
  | cons p ps =>
    rw [hc] at h e
    have : p = n := h
    subst this
    rw [← e]; rfl

theorem rows_dec : ∀ (ls : List (List UInt8)) (xss : List (List Int)), allS rowA ls = some xss → (∀ r ∈ xss, ∀ z ∈ r, z ≤ 10) → ls = xss.map (fun r => joinL 32 (wordsG decG letG r))
  | [], xss, h, _ => by
    have : xss = [] := by simpa [allS] using h.symm
    subst this; rfl
  | x :: xs, xss, h, hz => by
    rw [allS] at h
    cases e : rowA x with
    | none => rw [e] at h; cases h
    | some y =>
      rw [e] at h
      simp only [] at h
      cases e2 : allS rowA xs with
      | none => rw [e2] at h; cases h
      | some ys =>
        rw [e2] at h
        have : xss = y :: ys := by simpa using h.symm
        subst this
        rw [List.map_cons, ← rows_dec xs ys e2 (fun r hr => hz r (List.mem_cons_of_mem _ hr))]
        have hx : x = joinL 32 (wordsG decG letG y) := by
          unfold rowA at e
          split at e
          · rename_i hh
            have h3 := allS_dec _ _ e (hz y (List.mem_cons_self ..))
            have h4 := head_join 32 x _ hh
            rw [h3] at h4
            exact h4
          · cases e
        rw [← hx]

/-- what the strict reading finds fixes the text -/
theorem auto_text (t : List UInt8) (st : Int) (xss : List (List Int)) (h : autS t = some (st, xss)) (hs1 : st ≤ 10) (hx : xss.length ≤ 10) (hc : ∀ r ∈ xss, ∀ z ∈ r, z ≤ 10) :
    t = (rowsG decG (lineG decG autG [st, xss.length]) letG xss).data.toList := by
  unfold autS at h
  cases e : allS numS ((cutL 32 ((cutL 10 t).headD [])).drop 1) with
  | none => rw [e] at h; cases h
  | some ns =>
    rw [e] at h
    rcases ns with _ | ⟨a, _ | ⟨b, _ | ⟨c, ns⟩⟩⟩
    · cases h
    · cases h
    · simp only [] at h
      split at h
      · rename_i hh
        obtain ⟨hn, hl, hb⟩ := hh
        cases e2 : allS rowA (((cutL 10 t).drop 1).dropLast) with
        | none => rw [e2] at h; cases h
        | some yss =>
          rw [e2] at h
          have h' : (a, yss) = (st, xss) := by simpa using h
          obtain ⟨rfl, rfl⟩ := Prod.mk.inj h'
          have h3 := rows_dec _ _ e2 hc
          have hlen : ((cutL 10 t).drop 1).dropLast.length = yss.length := by rw [h3, List.length_map]
          rw [List.length_dropLast, List.length_drop] at hlen
          have hb0 : 0 ≤ b := allS_pos _ _ e b (by simp)
          have hbx : b = (yss.length : Int) := by omega
          subst hbx
          have h4 := allS_dec _ _ e (by
            intro z hz
            rcases List.mem_cons.1 hz with e | e
            · rw [e]; exact hs1
            · have : z = (yss.length : Int) := by simpa using e
              omega)
          have h5 := head_join 32 _ _ hn
          rw [h4] at h5
          have hj := joinL_cutL 10 t
          have hd : cutL 10 t = (cutL 10 t).headD [] :: (((cutL 10 t).drop 1).dropLast ++ [[]]) := by
            cases hc' : cutL 10 t with
            | nil => exact absurd hc' (cutL_ne 10 t)
            | cons p ps =>
              simp only [hc'] at hl hb
              have hps : ps ≠ [] := by
                intro e0; rw [e0] at hb; simp at hb; omega
              rw [List.getLast_cons hps] at hl
              show p :: ps = p :: (ps.dropLast ++ [[]])
              rw [← hl, List.dropLast_concat_getLast hps]
          rw [hd, h3] at hj
          rw [← hj, rowsG_data, lineG_data]
          have : ∀ (x : List UInt8) (ys : List (List UInt8)), x :: (ys ++ [[]]) = (x :: ys) ++ [[]] := fun _ _ => rfl
          rw [this, joinL_lines]
          rw [List.map_cons, List.flatten_cons]
          congr 1
          rw [h5]; rfl
      · cases h
    · cases h
end Go.Proofs.YtfdacodbiodiaaaDoor
