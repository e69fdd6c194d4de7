/- RenumberingOf of the reference: l01Turned and the whole. -/
import Derived.Test.YtocdkeidjocmkaaRenSpec
namespace Go.Proofs.Ytocdkeidjocmkaa
set_option linter.unusedVariables false
set_option linter.unusedSimpArgs false
open Go.ChangeShapes Go.WideShapes Go.ChangeAt Go.RowKit

theorem findSome_hit {α : Type} {f : Nat → Option α} {n s : Nat} {r : α} (hs : s < n) (h : ∀ t, t < s → f t = none) (hr : f s = some r) : (List.range n).findSome? f = some r := by
  have hsp := findSome_range (n := n) (f := f)
  cases hq : (List.range n).findSome? f with
  | none => have := hsp.2 hq s hs; rw [hr] at this; cases this
  | some q =>
    obtain ⟨s', h1, h2, h3⟩ := hsp.1 q hq
    rcases Nat.lt_trichotomy s s' with h4 | h4 | h4
    · have := h3 s h4; rw [hr] at this; cases this
    · subst h4; rw [← h2, hr]
    · have := h s' h4; rw [h2] at this; cases this
theorem findSome_miss {α : Type} {f : Nat → Option α} {n : Nat} (h : ∀ t, t < n → f t = none) : (List.range n).findSome? f = none := by
  rw [List.findSome?_eq_none_iff]
  exact fun t ht => h t (List.mem_range.1 ht)
/-- the branch at a place k with the number s -/
def branch (a b : List (List Int)) (n m f : Nat) (o : List Int) (k s : Nat) : Option (List Int) := if (s : Int) ∈ o then none else if fitsB a b n m (o.set k (s : Int)) = true then turnF a b n m f (o.set k (s : Int)) (k + 1) else none
theorem turnF_succ (a b : List (List Int)) (n m f : Nat) (o : List Int) (k : Nat) : turnF a b n m (f + 1) o k = (List.range n).findSome? fun s : Nat => branch a b n m f o k s := rfl
theorem set_back {o : List Int} {k : Nat} {s : Int} (hk : k < o.length) (h : o.getD k 0 = -1) : (o.set k s).set k (-1) = o := by
  rw [List.set_set]
  refine List.ext_getElem (by simp) fun i h1 h2 => ?_
  rw [List.getElem_set]
  split
  · rename_i e
    subst e
    rw [← h]
    simp [List.getD_eq_getElem?_getD, hk]
  · rfl
theorem Ord.store {w0 W : World} {n g c : Nat} {o : List Int} (h : Ord w0 W n g c o) (hl : o.length = n) (k : Nat) (z : Int) : Ord w0 (W.setCell ⟨g, k, none⟩ (.int .i64 z)) n g c (o.set k z) := by
  unfold Ord at h ⊢
  have := (h.stored k (.int .i64 z)).1
  rw [List.map_set]
  exact this
theorem Ord.qu {w0 W W' : World} {n g c : Nat} {o : List Int} (h : Ord w0 W n g c o) (hq : Qu W W') : Ord w0 W' n g c o := hq.owns h
/-- it answers whether there is one; the order's block holds it, or what it held -/
def TurnedPost (w0 : World) (n g c : Nat) (o : List Int) (x : Option (List Int)) (e : Ending) (W' : World) : Prop :=
  e = .returned (.bool x.isSome) ∧ Ord w0 W' n g c (x.getD o) ∧ Below w0.heap.size w0 W'

set_option maxRecDepth 100000 in
set_option maxHeartbeats 4000000 in
theorem l01Turned_any (w0 : World) (n m ba bb : Nat) (va vb : Value) (xss yss : List (List Int)) (HTA : TwoA w0 n m ba bb va vb xss yss) (g c : Nat) (hg0 : w0.heap.size ≤ g) : ∀ f k : Nat, k + f = n → ∀ (o : List Int) (W : World), Below w0.heap.size w0 W → Ord w0 W n g c o → o.length = n → (∀ i, i < n → -1 ≤ o.getD i 0 ∧ o.getD i 0 < n) → (∀ i, k ≤ i → i < n → o.getD i 0 = -1) →
    Calls Try.prog 58 #[.pointer (some ⟨ba, 0, none⟩), .pointer (some ⟨bb, 0, none⟩), .slice (some ⟨g, 0, none⟩) n c, .int .i64 k] W (TurnedPost w0 n g c o (turnF xss yss n m f o k)) := by
  intro f
  induction f with
  | zero =>
    intro k hk o W hb ho hl hr ht
    obtain rfl : k = n := by omega
    have HO := Lib.hid ho
    rw [show turnF xss yss k m 0 o k = some o from rfl]
    clear ho hr ht HTA
    go_enter Try.func58, Try.ntmps58
    go_wp2
    go_ret
    exact ⟨rfl, HO.out, hb⟩
  | succ f ih =>
    intro k hk o W hb ho hl hr ht
    have hkn : k < n := by omega
    have hn10 := HTA.ga.hi
    have htk := ht k (Nat.le_refl _) hkn
    have HIH := Lib.hid (fun (s : Nat) (hs : s < n) (W' : World) (hW : Below w0.heap.size w0 W') (hO : Ord w0 W' n g c (o.set k (s : Int))) => ih (k + 1) (by omega) (o.set k (s : Int)) W' hW hO (by simp [hl]) (fun i hi => by
        by_cases hik : i = k
        · subst hik; rw [gset_same (by omega)]; omega
        · rw [gset_other hik]; exact hr i hi) (fun i h1 h2 => by rw [gset_other (by omega)]; exact ht i (by omega) h2))
    have HFT := Lib.hid (fun (s : Nat) (hs : s < n) (W' : World) (hW : Below w0.heap.size w0 W') (hO : Ord w0 W' n g c (o.set k (s : Int))) => l01Fits_any w0 n m ba bb va vb xss yss HTA g c (o.set k (s : Int)) W' hW hO (by simp [hl]) (fun i hi => by
        by_cases hik : i = k
        · subst hik; rw [gset_same (by omega)]; omega
        · rw [gset_other hik]; exact hr i hi))
    have HBR : Hid (∀ s, branch xss yss n m f o k s = if (s : Int) ∈ o then none else if fitsB xss yss n m (o.set k (s : Int)) = true then turnF xss yss n m f (o.set k (s : Int)) (k + 1) else none) := fun s => rfl
    rw [turnF_succ]
    have HHIT := Lib.hid (fun (s : Nat) (hs : s < n) r h hr => findSome_hit (f := fun s : Nat => branch xss yss n m f o k s) (n := n) (s := s) (r := r) hs h hr)
    have HMISS := Lib.hid (fun h => findSome_miss (f := fun s : Nat => branch xss yss n m f o k s) (n := n) h)
    generalize (List.range n).findSome? (fun s : Nat => branch xss yss n m f o k s) = out at HHIT HMISS ⊢
    generalize branch xss yss n m f o k = br at HBR HHIT HMISS
    have HO := Lib.hid ho
    have HTT := Lib.hid HTA
    have HBK := Lib.hid (fun s => set_back (o := o) (k := k) (s := s) (by omega) htk)
    have i1 := idx_of Try.underlying55 size1_int (ao := some ⟨g, 0, none⟩) (b := g) (o := 0) (n := n) (c := c) (fun _ => rfl) hkn .i64
    rw [Nat.zero_add] at i1
    have hke : ((k : Int) == (n : Int)) = false := by simp; omega
    have HK1 : Hid (((k + 1 : Nat) : Int) = (k : Int) + 1) := by unfold Hid; omega
    clear ih ho hr ht HTA htk
    go_enter Try.func58, Try.ntmps58
    go_wp2
    go_loopw [9] (fun i wr => ∃ s : Nat, s ≤ n ∧ i = .int .i64 s ∧ Hid (∀ t, t < s → br t = none) ∧ Hid (Ord w0 wr n g c o) ∧ Below w0.heap.size w0 wr) (fun i _ => n - (intOf i).toNat)
    case atStart => exact ⟨0, Nat.zero_le _, rfl, fun j hj => absurd hj (by omega), HO.out, hb⟩
    case round =>
      obtain ⟨s, hs, rfl, HN, HOR, hbr⟩ := hrel
      have p0 := below_cell hbr HTT.out.a0
      by_cases hlt : s < n
      · have HPL := Lib.hid (l01Place_any _ o (s : Int) wr HOR.out.reads)
        have HNX : Hid (br s = none → ∀ t, t < s + 1 → br t = none) := fun h t ht => by
          rcases Nat.lt_or_ge t s with h2 | h2
          · exact HN.out t h2
          · obtain rfl : t = s := by omega
            exact h
        by_cases hin : (s : Int) ∈ o
        · obtain ⟨q, _, _, hq, _⟩ := placeZ_in hin
          rw [hq] at HPL
          have HB : Hid (br s = none) := by unfold Hid; rw [HBR.out, if_pos hin]
          clear hin hq
          go_wp2_with fail
          refine HPL.out.mono ?_
          rintro e w2 ⟨rfl, rfl⟩
          have hqq : decide ((q : Int) ≥ 0) = true := decide_eq_true (by omega)
          go_wp2
          go_roundw
          case rel => exact ⟨s + 1, by omega, by go_num, HNX.out HB.out, HOR.out, hbr⟩
          case measure => simp [intOf]; omega
        · rw [placeZ_out hin] at HPL
          have e1 := HOR.out.at hl hkn
          have f1 : wr.frozen? ⟨g, k, none⟩ = false := World.ownsRow.frozenAt HOR.out k
          obtain ⟨w3, hw3⟩ : ∃ w3, w3 = wr.setCell ⟨g, k, none⟩ (.int .i64 s) := ⟨_, rfl⟩
          have HO3 : Hid (Ord w0 w3 n g c (o.set k (s : Int))) := by unfold Hid; rw [hw3]; exact HOR.out.store hl k s
          have hb3 : Below w0.heap.size w0 w3 := by rw [hw3]; exact hbr.setCell (p := ⟨g, k, none⟩) hg0 (.int .i64 s)
          have HF3 := Lib.hid (HFT.out s hlt w3 hb3 HO3.out)
          cases hfit : fitsB xss yss n m (o.set k (s : Int))
          · rw [hfit] at HF3
            have HB : Hid (br s = none) := by unfold Hid; rw [HBR.out, if_neg hin, hfit]; rfl
            clear hin hfit
            go_wp2_with fail
            refine HPL.out.mono ?_
            rintro e w2 ⟨rfl, rfl⟩
            go_wp2_with fail
            rw [← hw3]
            refine HF3.out.mono ?_
            rintro e w4 ⟨rfl, hq4⟩
            have HO4 := Lib.hid (HO3.out.qu hq4)
            have hb4 : Below w0.heap.size w0 w4 := hb3.trans (hq4.below _)
            have e4 := HO4.out.at (by simp [hl]) hkn
            have f4 : w4.frozen? ⟨g, k, none⟩ = false := World.ownsRow.frozenAt HO4.out k
            have h5 := HO4.out.store (by simp [hl]) k (-1)
            rw [HBK.out] at h5
            have HO5 := Lib.hid h5
            have hb5 : Below w0.heap.size w0 (w4.setCell ⟨g, k, none⟩ (.int .i64 (-1))) := hb4.setCell (p := ⟨g, k, none⟩) hg0 (.int .i64 (-1))
            clear h5 hw3
            go_wp2
            go_roundw
            case rel => exact ⟨s + 1, by omega, by go_num, HNX.out HB.out, HO5.out, hb5⟩
            case measure => simp [intOf]; omega
          · rw [hfit] at HF3
            have hbrs : br s = turnF xss yss n m f (o.set k (s : Int)) (k + 1) := by rw [HBR.out, if_neg hin, if_pos hfit]
            have HREC := Lib.hid (fun W' hW hO => HIH.out s hlt W' hW hO)
            rw [← hbrs] at HREC
            have HH := Lib.hid (fun r hr => HHIT.out s hlt r HN.out hr)
            obtain ⟨x, hx⟩ : ∃ x, x = br s := ⟨_, rfl⟩
            rw [← hx] at HREC HH
            have HXX := Lib.hid hx
            rw [HK1.out] at HREC
            clear hin hfit hbrs hx
            go_wp2_with fail
            refine HPL.out.mono ?_
            rintro e w2 ⟨rfl, rfl⟩
            go_wp2_with fail
            rw [← hw3]
            refine HF3.out.mono ?_
            rintro e w4 ⟨rfl, hq4⟩
            have HO4 := Lib.hid (HO3.out.qu hq4)
            have hb4 : Below w0.heap.size w0 w4 := hb3.trans (hq4.below _)
            clear hw3
            go_wp2_with fail
            refine (HREC.out w4 hb4 HO4.out).mono ?_
            rintro e w5 ⟨rfl, ho5, hb5⟩
            cases x with
            | some r =>
              obtain rfl := HH.out r rfl
              have HO5 := Lib.hid ho5
              clear ho5
              go_wp2
              go_ret
              exact ⟨rfl, HO5.out, hb5⟩
            | none =>
              have HO5 : Hid (Ord w0 w5 n g c (o.set k (s : Int))) := ho5
              have e5 := HO5.out.at (by simp [hl]) hkn
              have f5 : w5.frozen? ⟨g, k, none⟩ = false := World.ownsRow.frozenAt HO5.out k
              have h6 := HO5.out.store (by simp [hl]) k (-1)
              rw [HBK.out] at h6
              have HO6 := Lib.hid h6
              have hb6 : Below w0.heap.size w0 (w5.setCell ⟨g, k, none⟩ (.int .i64 (-1))) := hb5.setCell (p := ⟨g, k, none⟩) hg0 (.int .i64 (-1))
              clear h6 ho5
              go_wp2
              go_roundw
              case rel => exact ⟨s + 1, by omega, by go_num, HNX.out HXX.out.symm, HO6.out, hb6⟩
              case measure => simp [intOf]; omega
      · obtain rfl := HMISS.out (fun t ht => HN.out t (by omega))
        go_wp2
        go_ret
        exact ⟨rfl, HOR.out, hbr⟩

end Go.Proofs.Ytocdkeidjocmkaa
