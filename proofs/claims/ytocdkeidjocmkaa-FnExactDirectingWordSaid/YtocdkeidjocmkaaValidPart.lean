/- ValidPartial, of the program. -/
import Derived.Test.YtocdkeidjocmkaaWithin
import Derived.Deep.RegionHeld3
namespace Go.Proofs.Ytocdkeidjocmkaa
set_option linter.unusedVariables false
set_option linter.unusedSimpArgs false
open Go.ChangeShapes Go.WideShapes Go.ChangeAt Go.RowKit

theorem validPartLit_any (v : Value) (zs : List Int) (b : Nat) (st : Int) (w : World) (h1 : Ints w v zs) (d0 : w.cell? ⟨b, 0, none⟩ = some (.int .i64 st)) (hst : 1 ≤ st ∧ st ≤ 10) :
    Calls Try.prog 86 #[v, .pointer (some ⟨b, 0, none⟩)] w (RetB (.bool (decide ((zs.length : Int) ≠ st) || !allIn zs (-1) (st - 1))) w) := by
  obtain ⟨ao1, p1, o1, c1, H1⟩ := h1.open
  have hv := H1.val
  subst hv
  have hm := H1.len
  obtain ⟨hs1, hs2⟩ := hst
  by_cases hl : (zs.length : Int) = st
  · have hb : (((zs.length : Nat) : Int) != st) = false := by simp [hl]
    have e : (decide ((zs.length : Int) ≠ st) || !allIn zs (-1) (st - 1)) = !allIn zs (-1) (st - 1) := by simp [hl]
    rw [e]
    have HC := Lib.hid (fun W (hb : Below w.heap.size w W) => areWithin_any _ zs (-1) (st - 1) W (h1.kept hb))
    have hbw := block_lt_of_cell d0
    obtain ⟨n, hn⟩ : ∃ n, n = zs.length := ⟨_, rfl⟩
    rw [← hn] at hb hm HC ⊢
    have HN := Lib.hid hn
    have HL := Lib.hid hl
    clear e hl hn h1 H1
    go_enter Try.func86, Try.ntmps86
    go_wp2
    have hwr := IntWalk.i64_in (st - 1) (by omega)
    go_region_held3 (fun w' => w'.cell? ⟨b, 0, none⟩ = some (.int .i64 st) ∧ Below w.heap.size w w') (first | exact ⟨by simpa using d0, (Below.refl _ _).drew⟩ | assumption | exact held_step1 (by assumption) (by assumption))
      (first | (go_simp; go_at_call 87; refine (sizeInts_any _ _ _ _ hm).mono ?_; rintro e w2 ⟨rfl, rfl⟩) | (go_simp; go_at_call 88; refine (HC.out _ (And.right (by assumption))).mono ?_; rintro e w2 ⟨rfl, hb2⟩))
    clear hwr
    go_wp2
    go_ret
    exact ⟨rfl, And.right (by assumption)⟩
  · have hb : (((zs.length : Nat) : Int) != st) = true := by simp [hl]
    have e : (decide ((zs.length : Int) ≠ st) || !allIn zs (-1) (st - 1)) = true := by simp [hl]
    rw [e]
    obtain ⟨n, hn⟩ : ∃ n, n = zs.length := ⟨_, rfl⟩
    rw [← hn] at hb hm ⊢
    clear e hl hn h1 H1
    go_enter Try.func86, Try.ntmps86
    go_wp2
    go_quiet ((go_at_call 87; exact Calls.quiet_of_same (sizeInts_any _ _ _ _ hm)))
    go_wp2
    go_ret
    exact ⟨rfl, below_drewN' (Below.refl _ _) _⟩

theorem lettersPart_any (st : Int) (ao : Option Addr) (n c : Nat) (w : World) (hn : n ≤ 9223372036854775807) :
    Calls Try.prog 84 #[.agg #[.int .i64 st, .slice ao n c]] w (RetB (.int .i64 n) w) := by
  go_enter Try.func84, Try.ntmps84
  go_wp2_with fail
  refine (sizeRows_any _ _ _ _ hn).mono ?_
  rintro e w2 ⟨rfl, rfl⟩
  go_wp2
  go_ret
  exact ⟨rfl, below_alloc (Below.refl _ _) _⟩

/-- is an automaton valid? -/
def rowsP (st : Int) (xss : List (List Int)) : Bool := xss.all fun r => decide ((r.length : Int) = st) && allIn r (-1) (st - 1)
def validP (st : Int) (xss : List (List Int)) : Bool := inB st 1 10 && (inB xss.length 1 3 && rowsP st xss)

theorem rowsP_anyAt (st : Int) (xss : List (List Int)) : anyAt (fun k => decide (((xss.getD k []).length : Int) ≠ st) || !allIn (xss.getD k []) (-1) (st - 1)) xss.length = !rowsP st xss := by
  rw [Bool.eq_iff_iff]
  rw [anyAt_true]
  simp only [rowsP, Bool.not_eq_true', List.all_eq_false, Bool.not_eq_true]
  constructor
  · rintro ⟨k, hk, h⟩
    refine ⟨xss[k], List.getElem_mem hk, ?_⟩
    simp only [List.getD_eq_getElem?_getD, List.getElem?_eq_getElem hk, Option.getD_some] at h
    rw [Bool.and_eq_false_iff]
    rw [Bool.or_eq_true] at h
    rcases h with h | h
    · left; simpa using h
    · right; simpa using h
  · rintro ⟨z, hz, h⟩
    obtain ⟨k, hk, rfl⟩ := List.getElem_of_mem hz
    refine ⟨k, hk, ?_⟩
    simp only [List.getD_eq_getElem?_getD, List.getElem?_eq_getElem hk, Option.getD_some]
    rw [Bool.and_eq_false_iff] at h
    rw [Bool.or_eq_true]
    rcases h with h | h
    · left; simpa using h
    · right; simpa using h

theorem validPart_any (st : Int) (v : Value) (xss : List (List Int)) (w : World) (h1 : Rows2 w v xss) :
    Calls Try.prog 43 #[.agg #[.int .i64 st, v]] w (RetB (.bool (validP st xss)) w) := by
  obtain ⟨ao, b, o, c, H1⟩ := h1.open
  have hv := H1.val
  have hm := H1.len
  subst hv
  clear H1
  have hW := fun W n (hn : n = w.heap.size) => within_any st 1 10 W
  cases hA : inB st 1 10
  · rw [show validP st xss = false by simp [validP, hA]]
    have HC := Lib.hid (fun W => within_any st 1 10 W)
    rw [hA] at HC
    clear hA h1 hW
    go_enter Try.func43, Try.ntmps43
    go_wp2_with fail
    refine (HC.out _).mono ?_
    rintro e w2 ⟨rfl, rfl⟩
    go_wp2
    go_ret
    exact ⟨rfl, below_alloc (Below.refl _ _) _⟩
  · have hst := inB_true.1 hA
    have HC := Lib.hid (fun W => within_any st 1 10 W)
    rw [hA] at HC
    cases hB : inB xss.length 1 3
    · rw [show validP st xss = false by simp [validP, hA, hB]]
      have HC2 := Lib.hid (fun W => within_any xss.length 1 3 W)
      rw [hB] at HC2
      obtain ⟨n, hn⟩ : ∃ n, n = xss.length := ⟨_, rfl⟩
      rw [← hn] at hm HC2 ⊢
      clear hA hB h1 hW hn
      go_enter Try.func43, Try.ntmps43
      go_wp2_with fail
      refine (HC.out _).mono ?_
      rintro e w2 ⟨rfl, rfl⟩
      go_wp2_with fail
      refine (lettersPart_any _ _ _ _ _ hm).mono ?_
      rintro e w3 ⟨rfl, hb3⟩
      go_wp2_with fail
      refine (HC2.out _).mono ?_
      rintro e w4 ⟨rfl, rfl⟩
      go_wp2
      go_ret
      exact ⟨rfl, below_trans (below_alloc (Below.refl _ _) _) hb3⟩
    · rw [show validP st xss = rowsP st xss by simp [validP, hA, hB]]
      have HC2 := Lib.hid (fun W => within_any xss.length 1 3 W)
      rw [hB] at HC2
      have eg : ∀ args w, (callFunc 86 args).run Try.prog w = .ok (.enter 86 args) w := fun _ _ => by kernel_rfl
      have HF : ∀ W, Below (w.alloc (.cells #[.int .i64 st, .slice ao xss.length c] 31)).heap.size (w.alloc (.cells #[.int .i64 st, .slice ao xss.length c] 31)) W →
          Calls Try.prog 85 #[.slice ao xss.length c, .func (.func 86) #[] #[.pointer (some ⟨w.heap.size, 0, none⟩)]] W (RetB (.bool (!rowsP st xss)) W) := by
        intro W hW'
        have hbw : Below w.heap.size w W := below_trans (below_alloc (Below.refl _ _) _) hW'
        obtain ⟨rs, hs, hn, hr⟩ := h1.kept hbw
        have C := containsFuncRows_any _ rs 86 #[.pointer (some ⟨w.heap.size, 0, none⟩)] (fun k => decide (((xss.getD k []).length : Int) ≠ st) || !allIn (xss.getD k []) (-1) (st - 1)) W hs eg (fun k hk W2 hW2 => by
          refine validPartLit_any _ _ w.heap.size st W2 ((hr k (by omega)).kept hW2) ?_ hst
          rw [hW2.cell (block_lt_of_cell (v := .int .i64 st) (by rw [hW'.cell (by simp)]; go_simp)), hW'.cell (by simp)]
          go_simp)
        rw [hn, rowsP_anyAt] at C
        exact C
      have HH := Lib.hid HF
      obtain ⟨n, hn⟩ : ∃ n, n = xss.length := ⟨_, rfl⟩
      rw [← hn] at hm HC2 HH ⊢
      clear hA hB h1 hW hn HF eg hst
      cases hz : rowsP st xss
      all_goals
        rw [hz] at HH
        clear hz
        go_enter Try.func43, Try.ntmps43
        go_wp2_with fail
        refine (HC.out _).mono ?_
        rintro e w2 ⟨rfl, rfl⟩
        go_wp2_with fail
        refine (lettersPart_any _ _ _ _ _ hm).mono ?_
        rintro e w3 ⟨rfl, hb3⟩
        obtain ⟨hc, hf⟩ := bcell hb3
        go_wp2_with fail
        refine (HC2.out _).mono ?_
        rintro e w4 ⟨rfl, rfl⟩
        go_wp2_with fail
        refine (HH.out _ hb3).mono ?_
        rintro e w5 ⟨rfl, hb5⟩
        go_wp2
        go_ret
        exact ⟨rfl, below_trans (below_trans (below_alloc (Below.refl _ _) _) hb3) hb5⟩

end Go.Proofs.Ytocdkeidjocmkaa
