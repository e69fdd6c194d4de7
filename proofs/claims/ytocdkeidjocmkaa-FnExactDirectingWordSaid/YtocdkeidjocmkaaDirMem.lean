/- The memory of the program's search for a word that directs: tuples, their list, the map of their words. -/
import Derived.Test.YtocdkeidjocmkaaDirKey
import Derived.Test.YtocdkeidjocmkaaDirStep
import Derived.Test.YtocdkeidjocmkaaTourI
import Derived.Test.YtocdkeidjocmkaaValidChoice
import Derived.Deep.MidRow
import Derived.Deep.WholeRow
namespace Go.Proofs.Ytocdkeidjocmkaa
set_option linter.unusedVariables false
set_option linter.unusedSimpArgs false
open Go.ChangeShapes Go.WideShapes Go.ChangeAt Go.RowKit

/-- the cells of a tuple -/
def tupL (y : List Nat) : List Value := (List.range 10).map fun k => Value.int .u64 (y.getD k 0 : Nat)
theorem tupV_eq (y : List Nat) : tupV y = .agg (tupL y).toArray := rfl
theorem tupL_len (y : List Nat) : (tupL y).length = 10 := by simp [tupL]
theorem tupL_get {y : List Nat} {k : Nat} (h : k < 10) : (tupL y)[k]? = some (.int .u64 (y.getD k 0 : Nat)) := by
  unfold tupL
  rw [List.getElem?_map, List.getElem?_range h]
  rfl
theorem tupL_one (y : List Nat) : ∀ u ∈ tupL y, u.oneCell' = true := by
  intro u hu
  unfold tupL at hu
  obtain ⟨k, _, rfl⟩ := List.mem_map.1 hu
  rfl
def GoodY (n : Nat) (y : List Nat) : Prop := y.length = n ∧ ∀ f ∈ y, f < 2 ^ n
theorem GoodY.small {n : Nat} {y : List Nat} (hn : n ≤ 10) (h : GoodY n y) : ∀ f ∈ y, f < 1024 := fun f hf => Nat.lt_of_lt_of_le (h.2 f hf) (Nat.pow_le_pow_right (by decide) hn)
theorem tupL_inj {n : Nat} {y z : List Nat} (hn : n ≤ 10) (h : y.length = n) (h' : z.length = n) (e : tupL y = tupL z) : y = z := by
  apply List.ext_getElem (by omega)
  intro k h1 h2
  have hk : k < 10 := by omega
  have e1 := tupL_get (y := y) hk
  rw [e, tupL_get hk] at e1
  injection e1 with e1
  injection e1 with _ e1
  simp only [List.getD_eq_getElem?_getD, List.getElem?_eq_getElem h1, List.getElem?_eq_getElem h2, Option.getD_some] at e1
  omega
theorem take_getD (y : List Nat) (s k : Nat) : (y.take s).getD k 0 = if k < s then y.getD k 0 else 0 := by
  simp only [List.getD_eq_getElem?_getD, List.getElem?_take]
  split <;> rfl
theorem tupL_set {y : List Nat} {s : Nat} (hs : s < 10) : (tupL (y.take s)).set s (.int .u64 (y.getD s 0 : Nat)) = tupL (y.take (s + 1)) := by
  apply List.ext_getElem?
  intro k
  rw [List.getElem?_set]
  by_cases hk : k < 10
  · rw [tupL_get hk, tupL_get hk, take_getD, take_getD, tupL_len]
    by_cases e : s = k
    · subst e
      rw [if_pos rfl, if_pos hs, if_pos (by omega)]
    · rw [if_neg e]
      by_cases h2 : k < s
      · rw [if_pos h2, if_pos (by omega)]
      · rw [if_neg h2, if_neg (by omega)]
  · rw [if_neg (by omega), List.getElem?_eq_none (by rw [tupL_len]; omega), List.getElem?_eq_none (by rw [tupL_len]; omega)]

/-- block b is the tuple y -/
def TB (w : World) (b : Nat) (y : List Nat) : Prop := w.heap[b]? = some (.cells (tupL y).toArray 103 (0, 0))
section
variable {w w' : World} {b n s k : Nat} {y : List Nat}
theorem TB.lt (h : TB w b y) : b < w.heap.size := (Array.getElem?_eq_some_iff.1 h).1
theorem TB.new (w : World) (y : List Nat) : TB (w.alloc (.cells (tupL y).toArray 103)) w.heap.size y := heap_alloc_new w _
theorem TB.range (h : TB w b y) : w.rangeAt b 0 (tupL y) := fun j v hv => by
  rw [Nat.zero_add, cell_of_row w b j _ _ _ h]
  simpa using hv
theorem TB.cell (h : TB w b y) (hk : k < 10) : w.cell? ⟨b, k, none⟩ = some (.int .u64 (y.getD k 0 : Nat)) := by
  rw [cell_of_row w b k _ _ _ h]
  simpa using tupL_get (y := y) hk
theorem TB.below (h : TB w b y) (hb : Below n w w') (hlt : b < n) : TB w' b y := (hb.block b hlt).trans h
theorem TB.next (h : TB w b y) (hb : Below w.heap.size w w') : TB w' b y := h.below hb h.lt
theorem TB.grown {row : Option Nat} (h : TB w b y) (hg : w.grownBy w' row) (hne : row ≠ some b) : TB w' b y := (hg.block b h.lt (fun e => hne e.symm)).trans h
theorem TB.set (h : TB w b (y.take s)) (hs : s < 10) : TB (w.setCell ⟨b, s, none⟩ (.int .u64 (y.getD s 0 : Nat))) b (y.take (s + 1)) := by
  unfold TB
  rw [heap_setCell_same w b s _ _ _ h, ← tupL_set hs]
  simp
end

theorem info_tuple : (Try.prog.info? 103).map (fun i => (i.zero, i.size, i.bytes)) = some (some (tupV []), 10, 80) := by kernel_rfl
theorem size_tuple : (Try.prog.info? 103).map (·.size) = some 10 := by kernel_rfl
theorem under_tuple : Try.prog.underlying 103 = some (.array 10 101) := by kernel_rfl
theorem sizeOf_tuple (w : World) : (sizeOf 103).run Try.prog w = .ok 10 w := by kernel_rfl
theorem zero_tuple (w : World) : (zeroValue 103).run Try.prog w = .ok (tupV []) w := by kernel_rfl

/-- what the program's table says of a slice type t over elements e of some cells -/
structure ElemS (P : Program) (t e : TypeId) (z : Value) (size bytes : Nat) : Prop where
  slice : P.underlying t = some (.slice e)
  info : (P.info? e).map (fun i => (i.zero, i.size, i.bytes)) = some (some z, size, bytes)
  cells : z.cells.size = size
  pos : 0 < size
theorem elem_tuple : ElemS Try.prog 104 103 (tupV []) 10 80 := ⟨Try.underlying104, by kernel_rfl, by decide, by decide⟩
theorem own_someS {w : World} {lo : Nat} {e : TypeId} {s : Nat} {v : Value} {n : Nat} {xs : List Value} (h : w.ownsRow lo e s v n xs) (h0 : 0 < n) : ∃ g cap, v = .slice (some ⟨g, 0, none⟩) n cap ∧ n ≤ cap := own_some h h0
theorem own_cells {w : World} {lo g n cap : Nat} {e : TypeId} {s : Nat} {xs : List Value} (h : w.ownsRow lo e s (.slice (some ⟨g, 0, none⟩) n cap) n xs) : ∀ j u, xs[j]? = some u → w.cell? ⟨g, j, none⟩ = some u := fun j u hj => by
  have hlt : j < n * s := by rw [← h.1]; exact (List.getElem?_eq_some_iff.1 hj).1
  rw [h.cellAt j hlt, hj]

/-- one element of some cells appended to a slice that the call owns -/
theorem wpList_pushS {P : Program} {t e : TypeId} {z : Value} {size bytes : Nat} (E : ElemS P t e z size bytes) {w : World} {ops : Array Oper} {rest : List Oper} {o : Oper} {a : Act} {Q : Exit → Act → World → Prop} (hgd : o.guard = none) (s x : Operand)
    (ho : o.op = .call { callee := .builtin .append, args := #[s, x], argTypes := #[t, t] })
    (lo : Nat) {v : Value} {n : Nat} {xs : List Value} (hs : a.eval s = v) (hown : w.ownsRow lo e size v n xs) (ad : Addr) (c : Nat) (news : List Value) (hx : a.eval x = .slice (some ad) 1 c)
    (hl : news.length = size) (hc : ∀ j u, news[j]? = some u → w.cell? (ad.add j) = some u) (hu : ∀ u ∈ news, u.oneCell' = true)
    (h63 : n + 1 ≤ maxLen) (hbytes : (n + 1) * bytes ≤ 140737488355328) (hlo : lo ≤ w.heap.size)
    (h : ∀ v' w', w'.ownsRow lo e size v' (n + 1) (xs ++ news) → w.grownBy w' v.ownBlock → SameOrNew v v' w.heap.size → wpList P ops Q rest (a.put o.dst v') w') :
    wpList P ops Q (o :: rest) a w := by
  have hinfo := E.info
  cases hi : P.info? e with
  | none => rw [hi] at hinfo; cases hinfo
  | some i =>
    rw [hi] at hinfo
    simp only [Option.map_some, Option.some.injEq, Prod.mk.injEq] at hinfo
    obtain ⟨hz, hsz, hby⟩ := hinfo
    have hlen : news.length = 1 * size := by omega
    have hgrow : ∀ v' w', w'.ownsRow w.heap.size e size v' (n + 1) (xs ++ news) → w.grownBy w' none → wpList P ops Q rest (a.put o.dst v') w' := by
      intro v' w' h1 h2
      refine h v' w' (own_lo h1 hlo) ⟨h2.os, h2.tape, h2.output, h2.size, fun k hk _ => h2.block k hk (by simp)⟩ ?_
      obtain ⟨g, cap, rfl, _⟩ := own_some h1 (by omega)
      exact .inr ⟨g, rfl, (own_block h1 rfl).1⟩
    rcases hown.2 with ⟨rfl, rfl⟩ | ⟨g, cap, cur, rfl, hg1, hg2, hnc, hcm, hcs, htake⟩
    · exact wpList_append_grows w hgd s x t ho e i z size bytes E.slice hi hz hsz hby E.cells E.pos none 0 0 xs hs (fun _ => ⟨rfl, rfl⟩) hown.1 (fun b hb => by cases hb) ad 1 c news hx hlen hc hu (by omega) h63 hbytes hgrow
    · by_cases hroom : n + 1 ≤ cap
      · refine wpList_append_fits w hgd s x t ho lo e i size E.slice hi hsz g n cap xs hs hown ad 1 c news hx hlen hc hu hroom ?_
        intro w' h1 h2
        exact h _ w' h1 h2 (.inl rfl)
      · exact wpList_append_grows w hgd s x t ho e i z size bytes E.slice hi hz hsz hby E.cells E.pos (some ⟨g, 0, none⟩) n cap xs hs (fun hh => by cases hh) hown.1 (fun b hb j u hj => by cases hb; rw [Addr.add_lit, Nat.zero_add]; exact own_cells hown j u hj) ad 1 c news hx hlen hc hu (by omega) h63 hbytes hgrow

/-- one tuple appended -/
theorem wpList_pushT {w : World} {ops : Array Oper} {rest : List Oper} {o : Oper} {a : Act} {Q : Exit → Act → World → Prop} (hgd : o.guard = none) (s x : Operand)
    (ho : o.op = .call { callee := .builtin .append, args := #[s, x], argTypes := #[104, 104] })
    (lo : Nat) {v : Value} {n : Nat} {xs : List Value} (y : List Nat) (hs : a.eval s = v) (hown : w.ownsRow lo 103 10 v n xs) (hx : a.eval x = .slice (some ⟨w.heap.size, 0, none⟩) 1 1)
    (h63 : n + 1 ≤ 100000) (hlo : lo ≤ w.heap.size)
    (h : ∀ v' w', w'.ownsRow lo 103 10 v' (n + 1) (xs ++ tupL y) → w.grownBy w' v.ownBlock → SameOrNew v v' w.heap.size → wpList Try.prog ops Q rest (a.put o.dst v') w') :
    wpList Try.prog ops Q (o :: rest) a (w.alloc (.cells (tupL y).toArray 103)) := by
  refine wpList_pushS elem_tuple hgd s x ho lo hs (hown.alloc _) ⟨w.heap.size, 0, none⟩ 1 (tupL y) hx (tupL_len y) ?_ (tupL_one y) (by unfold maxLen; omega) (by omega) (by simp; omega) ?_
  · intro j u hj
    rw [Addr.add_lit]
    exact (TB.new w y).range j u hj
  · intro v' w' h1 h2 h3
    refine h v' w' h1 ⟨h2.os, h2.tape, h2.output, by have := h2.size; simp at this; omega, fun k hk hr => (h2.block k (by simp; omega) hr).trans (Below.heap_alloc w _ k hk)⟩ ?_
    rcases h3 with h3 | ⟨k, h3, h4⟩
    · exact .inl h3
    · exact .inr ⟨k, h3, by simp at h4; omega⟩

/-- the cells of a list of tuples -/
def flatT (K : List (List Nat)) : List Value := K.flatMap tupL
theorem flatT_snoc (K : List (List Nat)) (y : List Nat) : flatT K ++ tupL y = flatT (K ++ [y]) := by simp [flatT]
theorem flatT_get : ∀ (K : List (List Nat)) (i j : Nat), i < K.length → j < 10 → (flatT K)[i * 10 + j]? = (tupL (K.getD i []))[j]? := by
  intro K
  induction K with
  | nil => intro i j hi; simp at hi
  | cons y K ih =>
    intro i j hi hj
    have e : flatT (y :: K) = tupL y ++ flatT K := by simp [flatT]
    rw [e]
    cases i with
    | zero => rw [List.getElem?_append_left (by rw [tupL_len]; omega)]; simp
    | succ i =>
      rw [List.getElem?_append_right (by rw [tupL_len]; omega), tupL_len, show (i + 1) * 10 + j - 10 = i * 10 + j by omega, ih i j (by simpa using hi) hj]
      simp
theorem list_range {w : World} {lo g n cap i : Nat} {K : List (List Nat)} (h : w.ownsRow lo 103 10 (.slice (some ⟨g, 0, none⟩) n cap) n (flatT K)) (hn : n = K.length) (hi : i < n) : w.rangeAt g (i * 10) (tupL (K.getD i [])) := fun j v hv => by
  have hj : j < 10 := by rw [← tupL_len (K.getD i [])]; exact (List.getElem?_eq_some_iff.1 hv).1
  rw [h.cellAt (i * 10 + j) (by omega), flatT_get K i j (by omega) hj, hv]

/-! what the operations on tuples do -/
theorem run_build_tup (w : World) : (Instr.build 103 #[]).run Try.prog w = .ok (tupV []) w := by kernel_rfl
theorem idx_tups {g n c k : Nat} (hk : k < n) (w : World) : (Instr.indexAt 104 (.slice (some ⟨g, 0, none⟩) n c) (.int .i64 (k : Int))).run Try.prog w = .ok (.pointer (some ⟨g, k * 10, none⟩)) w := by
  have he : Try.prog.elem 104 = 103 := by simp [Program.elem, Try.underlying104]
  rw [run_indexAt_slice (P := Try.prog) w 104 _ n c .i64 k (by rw [he]; exact Try.underlying104), if_pos (by omega), he, sizeOf_tuple]
  simp [Result.andThen, Addr.add_lit]
theorem idx_tup {b k : Nat} (hk : k < 10) (w : World) : (Instr.indexAt 103 (.pointer (some ⟨b, 0, none⟩)) (.int .i64 (k : Int))).run Try.prog w = .ok (.pointer (some ⟨b, k, none⟩)) w := by
  have he : Try.prog.elem 103 = 101 := by simp [Program.elem, under_tuple]
  have hl : Try.prog.arrayLen 103 = 10 := by simp [Program.arrayLen, under_tuple]
  rw [run_indexAt_array (P := Try.prog) w 103 _ .i64 k (by rw [he, hl]; exact under_tuple), hl, if_pos (by omega), he, size1_flock]
  simp [Result.andThen, Addr.add_lit]
theorem load_tup {w : World} {b o : Nat} {y : List Nat} (h : w.rangeAt b o (tupL y)) : (Instr.loadAt 103 (.pointer (some ⟨b, o, none⟩))).run Try.prog w = .ok (tupV y) w :=
  run_loadAt_mid w b o 103 (tupL y) _ h under_tuple rfl (by rw [tupL_len]; exact size_tuple)
theorem store_tup (w : World) (y z : List Nat) : (Instr.storeAt 103 (.pointer (some ⟨w.heap.size, 0, none⟩)) (tupV y)).run Try.prog (w.alloc (.cells (tupL z).toArray 103)) = .ok () (w.alloc (.cells (tupL y).toArray 103)) :=
  run_storeAt_new w 103 (tupL z).toArray (tupL y).toArray (by simp [tupL_len, size_tuple]) (by simp [tupL_len]) (all_oneCell_toArray (tupL_one y))
theorem slice_tup {b n : Nat} (hn : n ≤ 10) (w : World) : (Instr.sliceAt 103 (.pointer (some ⟨b, 0, none⟩)) none (some (.int .i64 (n : Int))) none).run Try.prog w = .ok (.slice (some ⟨b, 0, none⟩) n 10) w := by
  have he : Try.prog.elem 103 = 101 := by simp [Program.elem, under_tuple]
  have hl : Try.prog.arrayLen 103 = 10 := by simp [Program.arrayLen, under_tuple]
  rw [run_sliceAt_array_h (P := Try.prog) w 103 _ (by rw [he, hl]; exact under_tuple) .i64 n (by omega) (by rw [hl]; omega), he, hl, size1_flock]
  simp [Result.andThen, slicedAt, Addr.add_lit]
theorem lit_tup (w : World) (y : List Nat) : (Instr.buildSlice 104 1 #[(0, tupV y)]).run Try.prog w = .ok (.slice (some ⟨w.heap.size, 0, none⟩) 1 1) (w.alloc (.cells (tupL y).toArray 103)) := by kernel_rfl

/-! keys -/
theorem kl_inj {n : Nat} {y z : List Nat} (hn : n ≤ 10) (h : GoodY n y) (h' : GoodY n z) (e : kl y = kl z) : y = z := by
  have h1 := keyOf_kl (h.small hn)
  have h2 := keyOf_kl (h'.small hn)
  have h3 := law_tuple.inj h1 (h2.trans (congrArg some e.symm))
  clear e h1 h2
  rw [tupV_eq, tupV_eq] at h3
  injection h3 with h3
  exact tupL_inj hn h.1 h'.1 (by simpa using congrArg Array.toList h3)
theorem kl_key {y : List Nat} (hy : ∀ f ∈ y, f < 1024) : WideAt.IsKeyLit (kl y) := law_tuple.key (keyOf_kl hy)

/-- the map holds the words of the list -/
structure WordsD (n : Nat) (w : World) (lo : Nat) (F : Lit → Option Value) (T : Dir) : Prop where
  met : ∀ y, GoodY n y → (F (kl y)).isSome = decide (y ∈ T.keys)
  word : ∀ k, k < T.length → ∃ u, F (kl (T.at k).1) = some u ∧ w.ownsRow lo 2 1 u (T.at k).2.length ((T.at k).2.map (Value.int .i64)) ∧ u ≠ .slice none 0 0
theorem keys_snoc (T : Dir) (y : List Nat) (zs : List Int) : Dir.keys (T ++ [(y, zs)]) = T.keys ++ [y] := by simp [Dir.keys]
section
variable {W w w' : World} {n lo mb m : Nat} {lv v u : Value} {F : Lit → Option Value} {T : Dir} {K : List (List Nat)} {y : List Nat} {zs : List Int}
theorem WordsD.below (h : WordsD n w lo F T) (hb : Below w.heap.size w w') : WordsD n w' lo F T :=
  ⟨h.met, fun k hk => by obtain ⟨u, h1, h2, h3⟩ := h.word k hk; exact ⟨u, h1, own_below h2 hb, h3⟩⟩
theorem WordsD.kept (h : WordsD n w lo F T) {e : TypeId} {s n2 lo2 : Nat} {xs : List Value} (ho : w.ownsRow lo2 e s v n2 xs) (he : 2 ≠ e) (hg : w.grownBy w' v.ownBlock) : WordsD n w' lo F T :=
  ⟨h.met, fun k hk => by obtain ⟨u, h1, h2, h3⟩ := h.word k hk; exact ⟨u, h1, h2.kept hg (own_ne h2 ho he), h3⟩⟩
theorem WordsD.put (hn : n ≤ 10) (h : WordsD n w lo F T) (hT : ∀ p ∈ T, GoodY n p.1) (hm : MapAt Try.prog 103 w mb m F) (hg : w.grownBy w' (some mb)) (hy : GoodY n y) (hs : y ∉ T.keys) {lo2 : Nat} (hl : lo ≤ lo2)
    (ho : w.ownsRow lo2 2 1 u zs.length (zs.map (Value.int .i64))) (hnn : u ≠ .slice none 0 0) : WordsD n w' lo (putF F (kl y) u) (T ++ [(y, zs)]) := by
  refine ⟨fun z hz => ?_, fun k hk => ?_⟩
  · rw [keys_snoc]
    by_cases hr : z = y
    · subst hr
      rw [putF_same (kl_key (hz.small hn))]
      simp
    · rw [putF_other (fun e => hr (kl_inj hn hz hy e)), h.met z hz]
      simp [hr]
  · rw [List.length_append, List.length_singleton] at hk
    by_cases hkn : k < T.length
    · have e : Dir.at (T ++ [(y, zs)]) k = T.at k := Dir.at_pre hkn
      obtain ⟨u', h1, h2, h3⟩ := h.word k hkn
      rw [e]
      refine ⟨u', ?_, h2.kept hg (.inr fun e => hm.ne_own h2 e.symm), h3⟩
      rw [putF_other, h1]
      intro e2
      have := kl_inj hn (hT _ (Dir.at_mem hkn)) hy e2
      exact hs (this ▸ List.mem_map.2 ⟨_, Dir.at_mem hkn, rfl⟩)
    · have e0 : k = T.length := by omega
      subst e0
      have e : Dir.at (T ++ [(y, zs)]) T.length = (y, zs) := by simp [Dir.at, List.getD_eq_getElem?_getD]
      rw [e]
      exact ⟨u, putF_same (kl_key (hy.small hn)) u, own_lo (ho.kept hg (.inr fun e => hm.ne_own ho e.symm)) hl, hnn⟩

/-- the list of the tuples, the map of their words -/
structure DInv (n : Nat) (W w : World) (lo mb : Nat) (lv : Value) (K : List (List Nat)) (T : Dir) : Prop where
  list : w.ownsRow lo 103 10 lv K.length (flatT K)
  words : ∃ F, MapAt Try.prog 103 w mb T.length F ∧ WordsD n w lo F T
  below : Below lo W w
  low : lo ≤ w.heap.size
theorem DInv.next (h : DInv n W w lo mb lv K T) (hb : Below w.heap.size w w') : DInv n W w' lo mb lv K T :=
  ⟨own_below h.list hb, by obtain ⟨F, h1, h2⟩ := h.words; exact ⟨F, h1.below hb, h2.below hb⟩, h.below.trans (hb.mono h.low), Nat.le_trans h.low hb.size⟩
theorem DInv.put (hn : n ≤ 10) (h : DInv n W w lo mb lv K T) (hT : ∀ p ∈ T, GoodY n p.1) (hm : MapAt Try.prog 103 w mb m F) (hw : WordsD n w lo F T) (hm' : MapAt Try.prog 103 w' mb (T.length + 1) (putF F (kl y) u)) (hg : w.grownBy w' (some mb)) (hy : GoodY n y) (hs : y ∉ T.keys) (hmb : lo ≤ mb)
    (ho : w.ownsRow lo 2 1 u zs.length (zs.map (Value.int .i64))) (hnn : u ≠ .slice none 0 0) : DInv n W w' lo mb lv K (T ++ [(y, zs)]) :=
  ⟨h.list.kept hg (.inr fun e => hm.ne_own h.list e.symm), ⟨_, by rw [List.length_append]; exact hm', hw.put hn hT hm hg hy hs (Nat.le_refl _) ho hnn⟩, h.below.grown hg h.low (fun g hg => by cases hg; exact hmb), Nat.le_trans h.low hg.size⟩
theorem DInv.pushList (h : DInv n W w lo mb lv K T) (hg : w.grownBy w' lv.ownBlock) (ho : w'.ownsRow lo 103 10 v (K.length + 1) (flatT K ++ tupL y)) : DInv n W w' lo mb v (K ++ [y]) T :=
  ⟨by rw [flatT_snoc] at ho; rw [List.length_append, List.length_singleton]; exact ho, by obtain ⟨F, h1, h2⟩ := h.words; exact ⟨F, h1.kept hg (h1.ne_own h.list), h2.kept h.list (by decide) hg⟩, h.below.grown hg h.low (fun g hg => (own_block h.list hg).1), Nat.le_trans h.low hg.size⟩
end
end Go.Proofs.Ytocdkeidjocmkaa
