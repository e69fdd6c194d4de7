/- A slice of numbers that the call owns and that may begin behind its row's head: cut at its head, appended to. -/
import Derived.Test.YtlgnbbfhejjodaaNew
import Derived.ArgAppend
namespace Go.Proofs.Ytlgnbbfhejjodaa
set_option linter.unusedVariables false
set_option linter.unusedSimpArgs false
open Go.ChangeShapes Go.WideShapes Go.ChangeAt Go.RowKit

/-- v holds the numbers zs, in block g if it has room at all -/
def TailIn (w : World) (lo g : Nat) (v : Value) (zs : List Int) : Prop :=
  ∃ (a : Addr) (c : Nat), v = .slice (some a) zs.length c ∧ zs.length ≤ c ∧ c ≤ maxLen ∧ (0 < c → ∃ off cur, a = ⟨g, off, none⟩ ∧ lo ≤ g ∧ w.heap[g]? = some (.cells cur 2 (0, 0)) ∧ off + c ≤ cur.size ∧ ∀ j, j < zs.length → cur[off + j]? = some (.int .i64 (zs.getD j 0)))

theorem TailIn.below {w w' : World} {lo g : Nat} {v : Value} {zs : List Int} (h : TailIn w lo g v zs) (hb : Below w.heap.size w w') : TailIn w' lo g v zs := by
  obtain ⟨a, c, hv, h1, h2, h3⟩ := h
  refine ⟨a, c, hv, h1, h2, fun hc => ?_⟩
  obtain ⟨off, cur, ha, hl, hg, hs, hz⟩ := h3 hc
  exact ⟨off, cur, ha, hl, (hb.block g (Array.getElem?_eq_some_iff.1 hg).1).trans hg, hs, hz⟩
theorem tailIn_of_own {w : World} {lo g c : Nat} {zs : List Int} (h : w.ownsRow lo 2 1 (.slice (some ⟨g, 0, none⟩) zs.length c) zs.length (zs.map (Value.int .i64))) : TailIn w lo g (.slice (some ⟨g, 0, none⟩) zs.length c) zs := by
  rcases h.2 with ⟨h0, _⟩ | ⟨g', cap, cur, hv, hl, hg, hn, hm, hs, ht⟩
  · cases h0
  · injection hv with e1 _ e3
    injection e1 with e1
    injection e1 with e1
    subst e1; subst e3
    refine ⟨_, _, rfl, hn, hm, fun _ => ⟨0, cur, rfl, hl, hg, by omega, fun j hj => ?_⟩⟩
    have e : (cur.toList.take (zs.length * 1))[j]? = (zs.map (Value.int .i64))[j]? := by rw [ht]
    rw [List.getElem?_take, if_pos (by omega), Array.getElem?_toList, List.getElem?_map, List.getElem?_eq_getElem hj] at e
    rw [Nat.zero_add, e]
    simp [List.getD_eq_getElem?_getD, hj]
theorem TailIn.ints {w : World} {lo g : Nat} {v : Value} {zs : List Int} (h : TailIn w lo g v zs) : Ints w v zs := by
  obtain ⟨a, c, rfl, h1, h2, h3⟩ := h
  rcases Nat.eq_zero_or_pos c with rfl | hc
  · obtain rfl : zs = [] := List.eq_nil_of_length_eq_zero (by omega)
    exact (IntsAt.shut (ao := some a) (b := 0) (o := 0) (c := 0) ⟨rfl, fun h => absurd h (by simp), fun k hk => absurd hk (by simp), by simp⟩)
  · obtain ⟨off, cur, rfl, hl, hg, hs, hz⟩ := h3 hc
    refine IntsAt.shut (b := g) (o := off) ⟨rfl, fun _ => rfl, fun k hk => ?_, by unfold maxLen at h2; omega⟩
    rw [cell_of_row w g (off + k) cur 2 (0, 0) hg]
    exact hz k hk
theorem TailIn.head {w : World} {lo g : Nat} {v : Value} {zs : List Int} (h : TailIn w lo g v zs) (h0 : 0 < zs.length) : ∃ off c, v = .slice (some ⟨g, off, none⟩) zs.length c ∧ zs.length ≤ c ∧ w.cell? ⟨g, off, none⟩ = some (.int .i64 (zs.getD 0 0)) ∧ lo ≤ g := by
  obtain ⟨a, c, rfl, h1, h2, h3⟩ := h
  obtain ⟨off, cur, rfl, hl, hg, hs, hz⟩ := h3 (by omega)
  refine ⟨off, c, rfl, h1, ?_, hl⟩
  rw [cell_of_row w g off cur 2 (0, 0) hg]
  have := hz 0 h0
  rwa [Nat.add_zero] at this
theorem TailIn.shape {w : World} {lo g : Nat} {v : Value} {zs : List Int} (h : TailIn w lo g v zs) : ∃ a c, v = .slice (some a) zs.length c := by
  obtain ⟨a, c, hv, _⟩ := h
  exact ⟨a, c, hv⟩
/-- the first is cut off -/
theorem TailIn.pop {w : World} {lo g off c : Nat} {zs : List Int} (h : TailIn w lo g (.slice (some ⟨g, off, none⟩) zs.length c) zs) (h0 : 0 < zs.length) {a : Addr} (ha : c ≠ 1 → a = ⟨g, off + 1, none⟩) : TailIn w lo g (.slice (some a) (zs.length - 1) (c - 1)) (zs.drop 1) := by
  obtain ⟨a0, c0, e, h1, h2, h3⟩ := h
  injection e with e1 _ e3
  injection e1 with e1
  subst e1; subst e3
  refine ⟨a, c - 1, by simp, by simp; omega, by omega, fun hc => ?_⟩
  obtain ⟨off2, cur, e2, hl, hg, hs, hz⟩ := h3 (by omega)
  injection e2 with _ e3 _
  subst e3
  refine ⟨off + 1, cur, ha (by omega), hl, hg, by omega, fun j hj => ?_⟩
  rw [List.length_drop] at hj
  have := hz (1 + j) (by omega)
  rw [← Nat.add_assoc] at this
  rw [this]
  simp [List.getD_eq_getElem?_getD, Nat.add_comm]

/-- append of one number -/
theorem wpList_tailIn_push {w : World} {ops : Array Oper} {rest : List Oper} {o : Oper} {a : Act} {Q : Exit → Act → World → Prop} (hgd : o.guard = none) (s x : Operand)
    (ho : o.op = .call { callee := .builtin .append, args := #[s, x], argTypes := #[32, 32] })
    (lo g : Nat) {v : Value} {zs : List Int} (hs : a.eval s = v) (hown : TailIn w lo g v zs) (z : Int) (hx : a.eval x = .slice (some ⟨w.heap.size, 0, none⟩) 1 1)
    (hl : zs.length ≤ 1048576) (hlo : lo ≤ w.heap.size)
    (h : ∀ v' w' g', TailIn w' lo g' v' (zs ++ [z]) → (g' = g ∨ w.heap.size ≤ g') → w.grownBy w' (some g) → wpList Try.prog ops Q rest (a.put o.dst v') w') :
    wpList Try.prog ops Q (o :: rest) a (w.alloc (.cells #[.int .i64 z] 2)) := by
  obtain ⟨i, hi, hz, hsz, hby⟩ := info_parts elem_int.info
  have hw := hown.below (below_alloc (Below.refl w.heap.size w) (.cells #[.int .i64 z] 2))
  obtain ⟨ad, c, rfl, h1, h2, h3⟩ := hw
  have hold : ∀ j u, (zs.map (Value.int .i64))[j]? = some u → (w.alloc (.cells #[.int .i64 z] 2)).cell? (ad.add j) = some u := by
    intro j u hj
    have hjl := (List.getElem?_eq_some_iff.1 hj).1
    rw [List.length_map] at hjl
    obtain ⟨off, cur, rfl, _, hg, _, hzz⟩ := h3 (by omega)
    rw [Addr.add_lit, cell_of_row _ g (off + j) cur 2 (0, 0) hg, hzz j hjl]
    rw [List.getElem?_map, List.getElem?_eq_getElem hjl] at hj
    simp only [Option.map_some, Option.some.injEq] at hj
    rw [← hj]
    simp [List.getD_eq_getElem?_getD, hjl]
  have hnew : ∀ j u, [Value.int .i64 z][j]? = some u → (w.alloc (.cells #[.int .i64 z] 2)).cell? ((⟨w.heap.size, 0, none⟩ : Addr).add j) = some u := by
    intro j u hj
    match j, hj with
    | 0, hj => simp at hj; subst hj; simp [Addr.add]
  have hone : ∀ u ∈ [Value.int .i64 z], u.oneCell' = true := by intro u hu; simp at hu; subst hu; rfl
  have hgrow : c < zs.length + 1 → ∀ v' w', w'.ownsRow (w.alloc (.cells #[.int .i64 z] 2)).heap.size 2 1 v' (zs.length + 1) (zs.map (Value.int .i64) ++ [.int .i64 z]) → (w.alloc (.cells #[.int .i64 z] 2)).grownBy w' none → wpList Try.prog ops Q rest (a.put o.dst v') w' := by
    intro _ v' w' ho' hg'
    obtain ⟨g', cap, rfl, _⟩ := own_some ho' (by omega)
    have hgg := (own_block ho' rfl).1
    simp at hgg
    refine h _ w' g' ?_ (.inr (by omega)) ⟨hg'.os, hg'.tape, hg'.output, by have := hg'.size; simp at this; omega, fun k hk _ => (hg'.block k (by simp; omega) (by simp)).trans (Below.heap_alloc w _ k hk)⟩
    have ho2 : w'.ownsRow lo 2 1 (.slice (some ⟨g', 0, none⟩) (zs ++ [z]).length cap) (zs ++ [z]).length ((zs ++ [z]).map (Value.int .i64)) := by
      rw [List.length_append, List.map_append]
      exact own_lo ho' (by simp; omega)
    have := tailIn_of_own ho2
    rw [List.length_append] at this
    exact this
  by_cases hroom : zs.length + 1 ≤ c
  · obtain ⟨off, cur, rfl, hlg, hg, hsz2, hzz⟩ := h3 (by omega)
    have hcc : ∀ j, off + j < cur.size → ((w.alloc (.cells #[.int .i64 z] 2)).cell? ⟨g, off + j, none⟩).isSome = true ∧ (w.alloc (.cells #[.int .i64 z] 2)).frozen? ⟨g, off + j, none⟩ = false := by
      intro j hj
      rw [cell_of_row _ g (off + j) cur 2 (0, 0) hg, Array.getElem?_eq_getElem hj]
      exact ⟨rfl, by simp [World.frozen?, hg]⟩
    refine wpList_append_arg _ hgd s x 32 ho 2 i (.int .i64 0) 1 8 Try.underlying32 hi hz hsz hby rfl (by decide) g off zs.length c (zs.map (Value.int .i64)) hs (by simp) (fun j u hj => by have := hold j u hj; rwa [Addr.add_lit] at this) ⟨w.heap.size, 0, none⟩ 1 1 [.int .i64 z] hx rfl hnew hone ?_ (by unfold maxLen; omega) (by omega) ?_ hgrow
    · intro _ j hj
      simp at hj
      subst hj
      have := hcc zs.length (by omega)
      rw [Nat.mul_one, Nat.add_zero]
      exact this
    · intro _
      rw [Nat.mul_one]
      have hgw : g < w.heap.size := by
        obtain ⟨a2, c2, e2, _, _, h32⟩ := hown
        injection e2 with e21 _ e23
        injection e21 with e21
        subst e21; subst e23
        obtain ⟨off3, cur3, e3, _, hg3, _⟩ := h32 (by omega)
        injection e3 with e31 _ _
        exact (Array.getElem?_eq_some_iff.1 hg3).1
      refine h _ _ g ⟨_, c, by rw [List.length_append]; rfl, by simp; omega, h2, fun _ => ⟨off, cur.setIfInBounds (off + zs.length) (.int .i64 z), rfl, hlg, ?_, by simpa using hsz2, fun j hj => ?_⟩⟩ (.inl rfl) ⟨rfl, rfl, rfl, by simp [World.setCells], fun k hk hne => ?_⟩
      · simp [World.setCells, World.setCell, hg, Array.getElem?_modify]
      · rw [List.length_append, List.length_singleton] at hj
        rw [Array.getElem?_setIfInBounds]
        by_cases hjz : j < zs.length
        · rw [if_neg (by omega), hzz j hjz]
          simp [List.getD_eq_getElem?_getD, List.getElem?_append, hjz]
        · obtain rfl : j = zs.length := by omega
          rw [if_pos rfl, if_pos (by omega)]
          simp [List.getD_eq_getElem?_getD]
      · rw [World.setCells, World.setCells]
        rw [Below.heap_setCell _ _ _ _ (fun e => hne (by rw [e]))]
        exact Below.heap_alloc w _ k hk
  · refine wpList_append_grows _ hgd s x 32 ho 2 i (.int .i64 0) 1 8 Try.underlying32 hi hz hsz hby rfl (by decide) (some ad) zs.length c (zs.map (Value.int .i64)) hs (fun hh => by cases hh) (by simp) (fun b hb => by cases hb; exact hold) ⟨w.heap.size, 0, none⟩ 1 1 [.int .i64 z] hx rfl hnew hone (by omega) (by unfold maxLen; omega) (by omega) (hgrow (by omega))

/-- .. and the block is the call's own -/
structure Tail (w : World) (lo g : Nat) (v : Value) (zs : List Int) : Prop where
  tin : TailIn w lo g v zs
  low : lo ≤ g
  lt : g < w.heap.size
theorem Tail.below {w w' : World} {lo g : Nat} {v : Value} {zs : List Int} (h : Tail w lo g v zs) (hb : Below w.heap.size w w') : Tail w' lo g v zs := ⟨h.tin.below hb, h.low, Nat.lt_of_lt_of_le h.lt hb.size⟩
theorem tail_of_own {w : World} {lo g c : Nat} {zs : List Int} (h : w.ownsRow lo 2 1 (.slice (some ⟨g, 0, none⟩) zs.length c) zs.length (zs.map (Value.int .i64))) : Tail w lo g (.slice (some ⟨g, 0, none⟩) zs.length c) zs :=
  ⟨tailIn_of_own h, (own_block h rfl).1, (own_block h rfl).2⟩
theorem Tail.pop {w : World} {lo g off c : Nat} {zs : List Int} (h : Tail w lo g (.slice (some ⟨g, off, none⟩) zs.length c) zs) (h0 : 0 < zs.length) {a : Addr} (ha : c ≠ 1 → a = ⟨g, off + 1, none⟩) : Tail w lo g (.slice (some a) (zs.length - 1) (c - 1)) (zs.drop 1) := ⟨h.tin.pop h0 ha, h.low, h.lt⟩
theorem Tail.shape {w : World} {lo g : Nat} {v : Value} {zs : List Int} (h : Tail w lo g v zs) : ∃ a c, v = .slice (some a) zs.length c := h.tin.shape
theorem Tail.head {w : World} {lo g : Nat} {v : Value} {zs : List Int} (h : Tail w lo g v zs) (h0 : 0 < zs.length) : ∃ off c, v = .slice (some ⟨g, off, none⟩) zs.length c ∧ zs.length ≤ c ∧ w.cell? ⟨g, off, none⟩ = some (.int .i64 (zs.getD 0 0)) ∧ lo ≤ g := h.tin.head h0
/-- append of one number -/
theorem wpList_tail_push {w : World} {ops : Array Oper} {rest : List Oper} {o : Oper} {a : Act} {Q : Exit → Act → World → Prop} (hgd : o.guard = none) (s x : Operand)
    (ho : o.op = .call { callee := .builtin .append, args := #[s, x], argTypes := #[32, 32] })
    (lo g : Nat) {v : Value} {zs : List Int} (hs : a.eval s = v) (hown : Tail w lo g v zs) (z : Int) (hx : a.eval x = .slice (some ⟨w.heap.size, 0, none⟩) 1 1)
    (hl : zs.length ≤ 1048576) (hlo : lo ≤ w.heap.size)
    (h : ∀ v' w' g', Tail w' lo g' v' (zs ++ [z]) → (g' = g ∨ w.heap.size ≤ g') → w.grownBy w' (some g) → wpList Try.prog ops Q rest (a.put o.dst v') w') :
    wpList Try.prog ops Q (o :: rest) a (w.alloc (.cells #[.int .i64 z] 2)) := by
  refine wpList_tailIn_push hgd s x ho lo g hs hown.tin z hx hl hlo fun v' w' g' ht hg hgr => ?_
  by_cases h0 : g' < w'.heap.size ∧ lo ≤ g'
  · exact h v' w' g' ⟨ht, h0.2, h0.1⟩ hg hgr
  · exfalso
    obtain ⟨ad, c, _, h1, _, h3⟩ := ht
    rw [List.length_append, List.length_singleton] at h1
    obtain ⟨off, cur, _, hl2, hgg, _⟩ := h3 (by omega)
    exact h0 ⟨(Array.getElem?_eq_some_iff.1 hgg).1, hl2⟩

end Go.Proofs.Ytlgnbbfhejjodaa
