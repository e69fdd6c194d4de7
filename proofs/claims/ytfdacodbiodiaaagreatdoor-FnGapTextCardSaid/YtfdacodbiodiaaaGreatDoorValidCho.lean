import Derived.Test.YtfdacodbiodiaaaGreatDoorOwn
import Derived.Test.YtfdacodbiodiaaaGreatDoorSpecChoice
import Derived.Test.YtfdacodbiodiaaaGreatDoorGood
import Derived.Test.YtfdacodbiodiaaaGreatDoorWithin
import Derived.Deep.RegionHeld3
/- A region that draws its order, whose operations read, and whose calls hand back one value and leave what was there: one walk in the order of the text. -/
namespace Go.Proofs.YtfdacodbiodiaaaGreatDoor
set_option linter.unusedVariables false
set_option linter.unusedSimpArgs false
open Go.RowKit

/-- a world in which all that lay in w0 lies -/
structure BW (w0 : World) where
  val : World
  below : Below w0.heap.size w0 val

instance (w0 : World) : Nonempty (BW w0) := ⟨⟨w0, Below.refl _ _⟩⟩

theorem BW.cell {w0 : World} (x : BW w0) (b o : Nat) (h : b < w0.heap.size) : x.val.cell? ⟨b, o, none⟩ = w0.cell? ⟨b, o, none⟩ := x.below.cell (p := ⟨b, o, none⟩) h

theorem wp_region_below {P : Program} {id : Nat} {Q : Exit → Act → World → Prop} {a : Act} {w0 : World} {l : List Oper} (hm : P.follows .mixedOrders = true) (hB : Region.lexB .any l.toArray = true)
    (h : wpQuiet P l.toArray (fun w' => ∃ x : BW w0, w' = x.val) (fun a' => ∀ w', (∃ x : BW w0, w' = x.val) → Q .normal a' w') l a) : (Code.region id l.toArray true).wp P Q a w0 :=
  wp_region_quiet (C := fun w' => ∃ x : BW w0, w' = x.val) hm hB ⟨⟨w0.drew, (Below.refl _ _).drew⟩, rfl⟩ (by simpa using h)

theorem calls_lex {P : Program} {f : FuncId} {args : Array Value} {w0 : World} {x : BW w0} {v : Value} (h : Calls P f args x.val (RetB v x.val)) : Calls P f args x.val fun e w'' => e = .returned v ∧ ∃ x' : BW w0, w'' = x'.val :=
  h.mono fun _ w'' ⟨he, hb⟩ => ⟨he, ⟨w'', x.below.trans (hb.mono x.below.size)⟩, rfl⟩
theorem RetB.of_eq {P : Program} {f : FuncId} {args : Array Value} {w : World} {v : Value} (h : Calls P f args w fun e w' => e = .returned v ∧ w = w') : Calls P f args w (RetB v w) :=
  h.mono fun _ _ ⟨he, hw⟩ => ⟨he, hw ▸ Below.refl _ _⟩
theorem RetB.of_eq' {P : Program} {f : FuncId} {args : Array Value} {w : World} {v : Value} (h : Calls P f args w fun e w' => e = .returned v ∧ w' = w) : Calls P f args w (RetB v w) :=
  h.mono fun _ _ ⟨he, hw⟩ => ⟨he, hw ▸ Below.refl _ _⟩

end Go.Proofs.YtfdacodbiodiaaaGreatDoor

/- What a valid automaton with choices is, plainly. -/
namespace Go.Proofs.YtfdacodbiodiaaaGreatDoor
set_option linter.unusedVariables false
set_option linter.unusedSimpArgs false

structure GoodC (st : Int) (n : Nat) (xss : List (List (List Int))) : Prop where
  st : st = n
  lo : 1 ≤ n
  hi : n ≤ 10
  len1 : 1 ≤ xss.length
  len3 : xss.length ≤ 3
  row : ∀ k, k < xss.length → (xss.getD k []).length = n
  val : ∀ k s, k < xss.length → s < n → risesB ((xss.getD k []).getD s []) 0 ((n : Int) - 1) = true

theorem goodC_of {st : Int} {xss : List (List (List Int))} (h : validC st xss = true) : ∃ n : Nat, GoodC st n xss := by
  unfold validC at h
  rw [Bool.and_eq_true, Bool.and_eq_true] at h
  obtain ⟨h1, h2, h3⟩ := h
  have h1' := inB_true.1 h1
  have h2' := inB_true.1 h2
  have hr : ∀ k, k < xss.length → ((xss.getD k []).length : Int) = st ∧ setsB st (xss.getD k []) = true := fun k hk => by
    unfold rowsC at h3
    have := List.all_eq_true.1 h3 (xss.getD k []) (getD_mem hk _)
    rw [Bool.and_eq_true] at this
    exact ⟨of_decide_eq_true this.1, this.2⟩
  refine ⟨st.toNat, by omega, by omega, by omega, by omega, by omega, fun k hk => by have := (hr k hk).1; omega, fun k s hk hs => ?_⟩
  obtain ⟨a, b⟩ := hr k hk
  unfold setsB at b
  rw [show ((st.toNat : Nat) : Int) = st by omega]
  exact List.all_eq_true.1 b _ (getD_mem (by omega) _)
theorem rises_in {zs : List Int} {lo hi : Int} (h : risesB zs lo hi = true) : ∀ z ∈ zs, lo ≤ z ∧ z ≤ hi := by
  intro z hz
  obtain ⟨k, hk, rfl⟩ := List.getElem_of_mem hz
  unfold risesB at h
  have := List.all_eq_true.1 h k (by simpa using hk)
  unfold riseAt at this
  rw [Bool.and_eq_true] at this
  have := inB_true.1 this.1
  simpa [List.getD_eq_getElem?_getD, hk] using this
theorem GoodC.set {st : Int} {n : Nat} {xss : List (List (List Int))} (h : GoodC st n xss) {k s : Nat} (hk : k < xss.length) (hs : s < n) : ∀ z ∈ (xss.getD k []).getD s [], 0 ≤ z ∧ z < 10 := fun z hz => by
  have := rises_in (h.val k s hk hs) z hz
  have := h.st
  have := h.hi
  omega
theorem rises_ge {zs : List Int} {hi : Int} (h : risesB zs 0 hi = true) : ∀ k, k < zs.length → (k : Int) ≤ zs.getD k 0 := by
  intro k
  have hA : ∀ j, j < zs.length → riseAt zs 0 hi j = true := fun j hj => by unfold risesB at h; exact List.all_eq_true.1 h j (by simpa using hj)
  induction k with
  | zero => intro hk; have := hA 0 hk; unfold riseAt at this; rw [Bool.and_eq_true] at this; have := inB_true.1 this.1; omega
  | succ k ih =>
    intro hk
    have h1 := ih (by omega)
    have h2 := hA (k + 1) hk
    unfold riseAt at h2
    rw [Bool.and_eq_true, Bool.or_eq_true] at h2
    rcases h2.2 with h3 | h3
    · simp at h3
    · have := of_decide_eq_true h3
      rw [Nat.add_sub_cancel] at this
      omega
theorem rises_len {zs : List Int} {n : Nat} (h : risesB zs 0 ((n : Int) - 1) = true) : zs.length ≤ n := by
  rcases Nat.eq_zero_or_pos zs.length with h0 | h0
  · omega
  · have h1 := rises_ge h (zs.length - 1) (by omega)
    have h2 := (rises_in h _ (mem_getD (zs := zs) (s := zs.length - 1) (by omega))).2
    omega
theorem GoodC.len {st : Int} {n : Nat} {xss : List (List (List Int))} (h : GoodC st n xss) {k s : Nat} (hk : k < xss.length) (hs : s < n) : ((xss.getD k []).getD s []).length ≤ n := rises_len (h.val k s hk hs)

end Go.Proofs.YtfdacodbiodiaaaGreatDoor

/- ValidChoice, of the program. -/
namespace Go.Proofs.YtfdacodbiodiaaaGreatDoor
set_option linter.unusedVariables false
set_option linter.unusedSimpArgs false
open Go.ChangeShapes Go.WideShapes Go.ChangeAt Go.RowKit

theorem validChoiceLit2_any (v : Value) (zs : List Int) (b : Nat) (st : Int) (w : World) (h1 : Ints w v zs) (d0 : w.cell? ⟨b, 0, none⟩ = some (.int .i64 st)) (hst : 1 ≤ st ∧ st ≤ 10) :
    Calls Tryz.prog 41 #[v, .pointer (some ⟨b, 0, none⟩)] w (RetB (.bool (!risesB zs 0 (st - 1))) w) := by
  have HC := Lib.hid (isSet_any v zs st w h1 hst)
  clear h1
  generalize risesB zs 0 (st - 1) = q at HC ⊢
  go_enter Tryz.func41, Tryz.ntmps41
  go_wp2_with fail
  refine HC.out.mono ?_
  rintro e w2 ⟨rfl, rfl⟩
  go_wp2
  go_ret
  exact ⟨rfl, Below.refl _ _⟩

theorem setsB_anyAt (st : Int) (zss : List (List Int)) : anyAt (fun k => !risesB (zss.getD k []) 0 (st - 1)) zss.length = !setsB st zss := by
  rw [Bool.eq_iff_iff]
  rw [anyAt_true]
  simp only [setsB, Bool.not_eq_true', List.all_eq_false, Bool.not_eq_true]
  constructor
  · rintro ⟨k, hk, h⟩
    exact ⟨zss[k], List.getElem_mem hk, by simpa [List.getD_eq_getElem?_getD, hk] using h⟩
  · rintro ⟨z, hz, h⟩
    obtain ⟨k, hk, rfl⟩ := List.getElem_of_mem hz
    exact ⟨k, hk, by simpa [List.getD_eq_getElem?_getD, hk] using h⟩

theorem validChoiceLit_any (v : Value) (zss : List (List Int)) (b : Nat) (st : Int) (w : World) (h1 : Rows2 w v zss) (d0 : w.cell? ⟨b, 0, none⟩ = some (.int .i64 st)) (hst : 1 ≤ st ∧ st ≤ 10) :
    Calls Tryz.prog 39 #[v, .pointer (some ⟨b, 0, none⟩)] w (RetB (.bool (decide ((zss.length : Int) ≠ st) || !setsB st zss)) w) := by
  obtain ⟨ao1, p1, o1, c1, H1⟩ := h1.open
  have hv := H1.val
  subst hv
  have hm := H1.len
  by_cases hl : (zss.length : Int) = st
  · have hb : (((zss.length : Nat) : Int) != st) = false := by simp [hl]
    have e : (decide ((zss.length : Int) ≠ st) || !setsB st zss) = !setsB st zss := by simp [hl]
    rw [e]
    have eg : ∀ args w, (callFunc 41 args).run Tryz.prog w = .ok (.enter 41 args) w := fun _ _ => by kernel_rfl
    have HC0 : ∀ W, Below w.heap.size w W → Calls Tryz.prog 34 #[.slice ao1 zss.length c1, .func (.func 41) #[] #[.pointer (some ⟨b, 0, none⟩)]] W (RetB (.bool (!setsB st zss)) W) := by
      intro W hW
      obtain ⟨rs, hs, hn, hr⟩ := h1.kept hW
      have C := containsFuncRows_any _ rs 41 #[.pointer (some ⟨b, 0, none⟩)] (fun k => !risesB (zss.getD k []) 0 (st - 1)) W hs eg (fun k hk W2 hW2 => by
        refine validChoiceLit2_any _ _ b st W2 ((hr k (by omega)).kept hW2) ?_ hst
        exact below_cell (below_trans hW hW2) d0)
      rw [hn, setsB_anyAt] at C
      exact C
    have HC := Lib.hid HC0
    generalize setsB st zss = q at HC ⊢
    obtain ⟨n, hn⟩ : ∃ n, n = zss.length := ⟨_, rfl⟩
    rw [← hn] at hb hm HC ⊢
    have HN := Lib.hid hn
    have HL := Lib.hid hl
    have hbw := block_lt_of_cell d0
    clear e hl hn h1 H1 HC0 eg
    go_enter Tryz.func39, Tryz.ntmps39
    go_wp2
    go_region_held3 (fun w' => w'.cell? ⟨b, 0, none⟩ = some (.int .i64 st) ∧ Below w.heap.size w w') (first | exact ⟨by simpa using d0, (Below.refl _ _).drew⟩ | assumption | exact held_step1 (by assumption) (by assumption))
      (first | (go_simp; go_at_call 40; refine (sizeRows_any _ _ _ _ hm).mono ?_; rintro e w2 ⟨rfl, rfl⟩) | (go_simp; go_at_call 34; refine (HC.out _ (And.right (by assumption))).mono ?_; rintro e w2 ⟨rfl, hb2⟩))
    go_wp2
    go_ret
    exact ⟨rfl, And.right (by assumption)⟩
  · have hb : (((zss.length : Nat) : Int) != st) = true := by simp [hl]
    have e : (decide ((zss.length : Int) ≠ st) || !setsB st zss) = true := by simp [hl]
    rw [e]
    obtain ⟨n, hn⟩ : ∃ n, n = zss.length := ⟨_, rfl⟩
    rw [← hn] at hb hm ⊢
    clear e hl hn h1 H1
    go_enter Tryz.func39, Tryz.ntmps39
    go_wp2
    go_quiet ((go_at_call 40; exact Calls.quiet_of_same (sizeRows_any _ _ _ _ hm)))
    go_wp2
    go_ret
    exact ⟨rfl, below_drewN' (Below.refl _ _) _⟩

theorem sizeCube_any (ao : Option Addr) (n c : Nat) (w : World) (hn : n ≤ 9223372036854775807) :
    Calls Tryz.prog 58 #[.slice ao n c] w fun e w' => e = .returned (.int .i64 n) ∧ w' = w := by
  go_enter Tryz.func58, Tryz.ntmps58
  go_wp2
  go_ret
  exact ⟨rfl, rfl⟩

theorem lettersChoice_any (st : Int) (ao : Option Addr) (n c : Nat) (w : World) (hn : n ≤ 9223372036854775807) :
    Calls Tryz.prog 29 #[.agg #[.int .i64 st, .slice ao n c]] w (RetB (.int .i64 n) w) := by
  go_enter Tryz.func29, Tryz.ntmps29
  go_wp2_with fail
  refine (sizeCube_any _ _ _ _ hn).mono ?_
  rintro e w2 ⟨rfl, rfl⟩
  go_wp2
  go_ret
  exact ⟨rfl, below_alloc (Below.refl _ _) _⟩

theorem rowsC_anyAt (st : Int) (xss : List (List (List Int))) : anyAt (fun k => decide (((xss.getD k []).length : Int) ≠ st) || !setsB st (xss.getD k [])) xss.length = !rowsC st xss := by
  rw [Bool.eq_iff_iff]
  rw [anyAt_true]
  simp only [rowsC, Bool.not_eq_true', List.all_eq_false, Bool.not_eq_true]
  constructor
  · rintro ⟨k, hk, h⟩
    refine ⟨xss[k], List.getElem_mem hk, ?_⟩
    simp only [List.getD_eq_getElem?_getD, List.getElem?_eq_getElem hk, Option.getD_some] at h
    rw [Bool.and_eq_false_iff]
    rw [Bool.or_eq_true] at h
    rcases h with h | h
    · left; simpa using h
    · right; simpa using h
  · rintro ⟨z, hz, h⟩
    obtain ⟨k, hk, rfl⟩ := List.getElem_of_mem hz
    refine ⟨k, hk, ?_⟩
    simp only [List.getD_eq_getElem?_getD, List.getElem?_eq_getElem hk, Option.getD_some]
    rw [Bool.and_eq_false_iff] at h
    rw [Bool.or_eq_true]
    rcases h with h | h
    · left; simpa using h
    · right; simpa using h

theorem validChoice_any (st : Int) (v : Value) (xss : List (List (List Int))) (w : World) (h1 : Rows3 w v xss) :
    Calls Tryz.prog 15 #[.agg #[.int .i64 st, v]] w (RetB (.bool (validC st xss)) w) := by
  obtain ⟨ao, b, o, c, H1⟩ := h1.open
  have hv := H1.val
  have hm := H1.len
  subst hv
  clear H1
  have hW := fun W n (hn : n = w.heap.size) => within_any st 1 10 W
  cases hA : inB st 1 10
  · rw [show validC st xss = false by simp [validC, hA]]
    have HC := Lib.hid (fun W => within_any st 1 10 W)
    rw [hA] at HC
    clear hA h1 hW
    go_enter Tryz.func15, Tryz.ntmps15
    go_wp2_with fail
    refine (HC.out _).mono ?_
    rintro e w2 ⟨rfl, rfl⟩
    go_wp2
    go_ret
    exact ⟨rfl, below_alloc (Below.refl _ _) _⟩
  · have hst := inB_true.1 hA
    have HC := Lib.hid (fun W => within_any st 1 10 W)
    rw [hA] at HC
    cases hB : inB xss.length 1 3
    · rw [show validC st xss = false by simp [validC, hA, hB]]
      have HC2 := Lib.hid (fun W => within_any xss.length 1 3 W)
      rw [hB] at HC2
      obtain ⟨n, hn⟩ : ∃ n, n = xss.length := ⟨_, rfl⟩
      rw [← hn] at hm HC2 ⊢
      clear hA hB h1 hW hn
      go_enter Tryz.func15, Tryz.ntmps15
      go_wp2_with fail
      refine (HC.out _).mono ?_
      rintro e w2 ⟨rfl, rfl⟩
      go_wp2_with fail
      refine (lettersChoice_any _ _ _ _ _ hm).mono ?_
      rintro e w3 ⟨rfl, hb3⟩
      go_wp2_with fail
      refine (HC2.out _).mono ?_
      rintro e w4 ⟨rfl, rfl⟩
      go_wp2
      go_ret
      exact ⟨rfl, below_trans (below_alloc (Below.refl _ _) _) hb3⟩
    · rw [show validC st xss = rowsC st xss by simp [validC, hA, hB]]
      have HC2 := Lib.hid (fun W => within_any xss.length 1 3 W)
      rw [hB] at HC2
      have eg : ∀ args w, (callFunc 39 args).run Tryz.prog w = .ok (.enter 39 args) w := fun _ _ => by kernel_rfl
      have HF : ∀ W, Below (w.alloc (.cells #[.int .i64 st, .slice ao xss.length c] 30)).heap.size (w.alloc (.cells #[.int .i64 st, .slice ao xss.length c] 30)) W →
          Calls Tryz.prog 38 #[.slice ao xss.length c, .func (.func 39) #[] #[.pointer (some ⟨w.heap.size, 0, none⟩)]] W (RetB (.bool (!rowsC st xss)) W) := by
        intro W hW'
        have hbw : Below w.heap.size w W := below_trans (below_alloc (Below.refl _ _) _) hW'
        obtain ⟨rs, hs, hn, hr⟩ := h1.kept hbw
        have C := containsFuncCube_any _ rs 39 #[.pointer (some ⟨w.heap.size, 0, none⟩)] (fun k => decide (((xss.getD k []).length : Int) ≠ st) || !setsB st (xss.getD k [])) W hs eg (fun k hk W2 hW2 => by
          refine validChoiceLit_any _ _ w.heap.size st W2 ((hr k (by omega)).kept hW2) ?_ hst
          rw [hW2.cell (block_lt_of_cell (v := .int .i64 st) (by rw [hW'.cell (by simp)]; go_simp)), hW'.cell (by simp)]
          go_simp)
        rw [hn, rowsC_anyAt] at C
        exact C
      have HH := Lib.hid HF
      obtain ⟨n, hn⟩ : ∃ n, n = xss.length := ⟨_, rfl⟩
      rw [← hn] at hm HC2 HH ⊢
      clear hA hB h1 hW hn HF eg hst
      cases hz : rowsC st xss
      all_goals
        rw [hz] at HH
        clear hz
        go_enter Tryz.func15, Tryz.ntmps15
        go_wp2_with fail
        refine (HC.out _).mono ?_
        rintro e w2 ⟨rfl, rfl⟩
        go_wp2_with fail
        refine (lettersChoice_any _ _ _ _ _ hm).mono ?_
        rintro e w3 ⟨rfl, hb3⟩
        obtain ⟨hc, hf⟩ := bcell hb3
        go_wp2_with fail
        refine (HC2.out _).mono ?_
        rintro e w4 ⟨rfl, rfl⟩
        go_wp2_with fail
        refine (HH.out _ hb3).mono ?_
        rintro e w5 ⟨rfl, hb5⟩
        go_wp2
        go_ret
        exact ⟨rfl, below_trans (below_trans (below_alloc (Below.refl _ _) _) hb3) hb5⟩

end Go.Proofs.YtfdacodbiodiaaaGreatDoor

