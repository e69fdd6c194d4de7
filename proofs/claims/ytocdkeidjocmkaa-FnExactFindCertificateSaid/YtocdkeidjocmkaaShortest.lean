/- ShortestReset, CanReset, IsFullyReached, of the reference and of the program. -/
import Derived.Test.YtocdkeidjocmkaaTourG
namespace Go.Proofs.Ytocdkeidjocmkaa
set_option linter.unusedVariables false
set_option linter.unusedSimpArgs false
open Go.ChangeShapes Go.WideShapes Go.ChangeAt Go.RowKit

/-- the tour from all states -/
def allTour (st : Int) (xss : List (List Int)) : Tour := tourOf xss (2 ^ st.toNat - 1)
def srZs (st : Int) (xss : List (List Int)) : List Int := if validB st xss = true then wordP smallB (allTour st xss) else []
def srCd (st : Int) (xss : List (List Int)) : Int := if validB st xss = true then codeP smallB (allTour st xss) else 1
theorem Good.full {st : Int} {n : Nat} {xss : List (List Int)} (h : Good st n xss) : 2 ^ n - 1 < 2 ^ n := by have := Nat.two_pow_pos n; omega
theorem Good.allTour {st : Int} {n : Nat} {xss : List (List Int)} (h : Good st n xss) : allTour st xss = tourOf xss (2 ^ n - 1) := by unfold Proofs.Ytocdkeidjocmkaa.allTour; rw [h.st]; rfl
theorem Good.tour {st : Int} {n : Nat} {xss : List (List Int)} (h : Good st n xss) : GoodT n (tourOf xss (2 ^ n - 1)) := GoodT.outer h.rows h.len3 h.full 1024
theorem wordP_none {p : Nat → Bool} {T : Tour} (h : (firstT p T).isSome = false) : wordP p T = [] := by
  unfold wordP
  cases hf : firstT p T with
  | none => rfl
  | some x => rw [hf] at h; cases h
theorem codeP_if (p : Nat → Bool) (T : Tour) : codeP p T = if (firstT p T).isSome = true then 0 else 6 := rfl
theorem wordP_len {n : Nat} {p : Nat → Bool} {T : Tour} (h : GoodT n T) (hn : n ≤ 10) : (wordP p T).length ≤ 1024 := by
  unfold wordP
  cases hf : firstT p T with
  | none => simp
  | some x =>
    have := h.word x (List.mem_of_find?_eq_some hf)
    have := h.len10 hn
    simp
    omega

theorem srZs_len (st : Int) (xss : List (List Int)) : (srZs st xss).length ≤ 1024 := by
  unfold srZs
  split
  · rename_i hv
    obtain ⟨n, hg⟩ := good_of hv
    rw [hg.allTour]
    exact wordP_len hg.tour hg.hi
  · simp
theorem FirstPost.new {lo : Nat} {zs : List Int} {code : Int} {w0 w : World} {e : Ending} {w' : World} (h : FirstPost lo zs code w e w') (hl : w0.heap.size ≤ lo) (hb : Below w0.heap.size w0 w) : NewInts2 zs code w0 e w' := by
  obtain ⟨v, he, ho, hb2⟩ := h
  exact ⟨v, he, own_lo ho hl, below_trans hb hb2⟩


theorem isSmall_ret (T : Tour) (n : Nat) (hT : GoodT n T) (hn : n ≤ 10) (w : World) : ∀ k, k < T.length → ∀ W, Below w.heap.size w W → Calls Try.prog 108 (#[.int .u64 ((T.at k).1 : Int)] ++ #[]) W (RetB (.bool (smallB (T.at k).1)) W) := fun k hk W _ =>
  (isSmall_any _ W (hT.lt10 hn hk)).mono fun _ _ ⟨he, hw⟩ => ⟨he, hw ▸ Below.refl _ _⟩


end Go.Proofs.Ytocdkeidjocmkaa
