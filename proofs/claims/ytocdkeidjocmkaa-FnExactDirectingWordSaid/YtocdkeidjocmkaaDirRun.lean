/- What the walk of the program's search asks of worlds: plain facts. -/
import Derived.Test.YtocdkeidjocmkaaDirOps
import Derived.Test.YtocdkeidjocmkaaDirSpec
import Derived.Deep.RegionLaw
import Derived.Deep.AppendLies
namespace Go.Proofs.Ytocdkeidjocmkaa
set_option linter.unusedVariables false
set_option linter.unusedSimpArgs false
open Go.ChangeShapes Go.WideShapes Go.ChangeAt Go.RowKit

theorem ints2_nil {w w2 : World} (cd : Int) (hb : Below w.heap.size w w2) : NewInts2 [] cd w (.returned (.tuple #[.slice none 0 0, .int .i64 cd])) w2 := ⟨_, rfl, World.ownsRow_nil _ _ _ _, hb⟩
theorem ints2_eq {zs zs0 : List Int} {c c0 : Int} {w w' : World} {e : Ending} (h1 : zs = zs0) (h2 : c = c0) (h : NewInts2 zs0 c0 w e w') : NewInts2 zs c w e w' := by rw [h1, h2]; exact h
theorem below_put {a w w' : World} {lo m : Nat} (h : Below lo a w) (hg : w.grownBy w' (some m)) (hl : lo ≤ w.heap.size) (hm : lo ≤ m) : Below lo a w' := Below.grown h hg hl fun g hg => by cases hg; exact hm
theorem tupL_ten (y : List Nat) : ∃ c0 c1 c2 c3 c4 c5 c6 c7 c8 c9 : Value, tupL y = [c0, c1, c2, c3, c4, c5, c6, c7, c8, c9] := ⟨_, _, _, _, _, _, _, _, _, _, rfl⟩
theorem directs_tup {b n : Nat} {y : List Nat} (kind : Int) {w : World} (h : TB w b y) (hy : GoodY n y) (hn1 : 0 < n) (hn : n ≤ 10) (hk : inB kind 1 3 = true) :
    Calls Try.prog 76 #[.slice (some ⟨b, 0, none⟩) n 10, .int .i64 kind] w (RetQ (.bool (dirB kind y)) w) := by
  obtain ⟨hl, hf⟩ := hy
  subst hl
  refine directs_any b 0 10 y kind w hn1 hn (fun k hk => ?_) (fun f hff => Nat.lt_of_lt_of_le (hf f hff) (Nat.pow_le_pow_right (by decide) hn)) hk
  rw [Nat.zero_add]
  exact h.cell (by omega)

theorem hp_here {W : World} {o : Obj} {k : Nat} (h : k = W.heap.size) : (W.alloc o).heap[k]? = some o := by subst h; exact heap_alloc_new _ _
theorem hp_past {W : World} {o : Obj} {k : Nat} {r : Option Obj} (h : k < W.heap.size) (h2 : W.heap[k]? = r) : (W.alloc o).heap[k]? = r := (Below.heap_alloc W o k h).trans h2
theorem hp_grown {W W' : World} {m k : Nat} {r : Option Obj} (hg : W.grownBy W' (some m)) (h : k < W.heap.size) (hne : k ≠ m) (h2 : W.heap[k]? = r) : W'.heap[k]? = r := (hg.block k h (fun e => hne (by injection e))).trans h2
theorem hp_drew {W : World} {k : Nat} {r : Option Obj} (h : W.heap[k]? = r) : W.drew.heap[k]? = r := h
theorem MapAt.of_new {P : Program} {k : TypeId} {W : World} {mb : Nat} (h : W.heap[mb]? = some (.map #[] 0)) : MapAt P k W mb 0 (fun _ => none) := by
  obtain ⟨D, ⟨es, clock, hb, hr⟩, h2⟩ := MapAt.made P k W
  rw [heap_alloc_new] at hb
  injection hb with hb
  injection hb with h3 h4
  subst h3
  subst h4
  exact ⟨D, ⟨_, _, h, hr⟩, h2⟩
theorem MapAt.moved {P : Program} {k : TypeId} {W W' : World} {mb n : Nat} {f : Lit → Option Value} (hm : MapAt P k W mb n f) (h : W'.heap[mb]? = W.heap[mb]?) : MapAt P k W' mb n f := by
  obtain ⟨D, ⟨es, clock, hb, hr⟩, h2⟩ := hm
  exact ⟨D, ⟨es, clock, h.trans hb, hr⟩, h2⟩
theorem DInv.start {W wx : World} {n lb mb eb : Nat} {y : List Nat} (hn : n ≤ 10) (hy : GoodY n y) (hl : wx.heap[lb]? = some (.cells (tupL y).toArray 103)) (he : wx.heap[eb]? = some (.cells #[] 2))
    (hm : MapAt Try.prog 103 wx mb 1 (putF (fun _ => none) (kl y) (.slice (some ⟨eb, 0, none⟩) 0 0))) (h1 : W.heap.size ≤ lb) (h2 : W.heap.size ≤ eb) (h3 : Below W.heap.size W wx) : DInv n W wx W.heap.size mb (.slice (some ⟨lb, 0, none⟩) 1 1) [y] [(y, [])] := by
  have hlist : wx.ownsRow W.heap.size 103 10 (.slice (some ⟨lb, 0, none⟩) 1 1) 1 (flatT [y]) := by
    have e : flatT [y] = tupL y := by simp [flatT]
    rw [e]
    exact ⟨by rw [tupL_len], .inr ⟨lb, 1, _, rfl, h1, hl, Nat.le_refl _, by unfold maxLen; omega, by simp [tupL_len], by rw [List.take_of_length_le (by simp [tupL_len])]⟩⟩
  have hemp : wx.ownsRow W.heap.size 2 1 (.slice (some ⟨eb, 0, none⟩) 0 0) 0 [] := ⟨rfl, .inr ⟨eb, 0, _, rfl, h2, he, Nat.le_refl _, by unfold maxLen; omega, rfl, rfl⟩⟩
  have hkey := kl_key (hy.small hn)
  refine ⟨hlist, ⟨_, hm, fun z hz => ?_, fun k hk => ?_⟩, h3, h3.size⟩
  · by_cases hr : z = y
    · subst hr
      rw [putF_same hkey]
      simp [Dir.keys]
    · rw [putF_other (fun e => hr (kl_inj hn hz hy e))]
      simp [Dir.keys, hr]
  · simp at hk
    subst hk
    exact ⟨_, putF_same hkey _, hemp, by intro h; cases h⟩

/-- the region that makes the list and the map: what stays -/
theorem heldR {w0 w' : World} {fb : Nat} {y : List Nat} {cs : List Value} (h : TB w0 fb y) (hc : tupL y = cs) (hb : Below w0.heap.size w0 w') : w'.rangeAt fb 0 cs ∧ Below w0.heap.size w0 w' := ⟨hc ▸ (h.next hb).range, hb⟩
theorem grown_and {a b c : World} {row row' : Option Nat} (h : a.grownBy b row) (k : b.grownBy c row') (hr : ∀ j, row' = some j → a.heap.size ≤ j ∨ row = some j) : a.grownBy c row :=
  ⟨k.os.trans h.os, k.tape.trans h.tape, k.output.trans h.output, Nat.le_trans h.size k.size, fun i hi hne => (k.block i (by have := h.size; omega) (fun e => by
    rcases hr i e.symm with h1 | h1
    · omega
    · exact hne h1.symm)).trans (h.block i hi hne)⟩
theorem grown_drew (w : World) (row : Option Nat) : w.grownBy w.drew row := ⟨rfl, rfl, rfl, Nat.le_refl _, fun _ _ _ => rfl⟩
theorem grown_alloc {a b : World} {row : Option Nat} (h : a.grownBy b row) (o : Obj) : a.grownBy (b.alloc o) row :=
  ⟨h.os, h.tape, h.output, by have := h.size; simp; omega, fun k hk hr => (Below.heap_alloc b o k (by have := h.size; omega)).trans (h.block k hk hr)⟩
theorem grown_below {a b c : World} {row : Option Nat} (h : a.grownBy b row) (k : Below b.heap.size b c) : a.grownBy c row :=
  ⟨k.os.trans h.os, k.tape.trans h.tape, k.output.trans h.output, Nat.le_trans h.size k.size, fun i hi hne => (k.block i (by have := h.size; omega)).trans (h.block i hi hne)⟩
/-- the region that lays the word: what stays -/
theorem heldD {w0 w' : World} {nb tb mb : Nat} {y a : List Nat} (h : TB w0 nb y) (h2 : TB w0 tb a) (hn : nb ≠ mb) (ht : tb ≠ mb) (hg : w0.grownBy w' (some mb)) : w'.rangeAt nb 0 (tupL y) ∧ w'.rangeAt tb 0 (tupL a) ∧ w0.grownBy w' (some mb) :=
  ⟨(h.grown hg (fun e => hn (by injection e with e; exact e.symm))).range, (h2.grown hg (fun e => ht (by injection e with e; exact e.symm))).range, hg⟩
/-- one element of one cell appended, wherever the new element's cell lies -/
theorem step_appSM {P : Program} {t e : TypeId} {z : Value} {bytes : Nat} (E : Elem P t e z bytes) {w : World} {ops : Array Oper} {o : Oper} {a : Act} {K : Act → World → Prop} {Q : Exit → Act → World → Prop} {F : Prop} (hgd : o.guard = none) (s x : Operand)
    (ho : o.op = .call { callee := .builtin .append, args := #[s, x], argTypes := #[t, t] })
    (lo : Nat) {v : Value} {n : Nat} {xs : List Value} (hs : a.eval s = v) (hown : w.ownsRow lo e 1 v n xs) (g : Nat) (u : Value) (hx : a.eval x = .slice (some ⟨g, 0, none⟩) 1 1) (hc : w.cell? ⟨g, 0, none⟩ = some u) (hu : u.oneCell' = true)
    (h63 : n + 1 ≤ maxLen) (hbytes : (n + 1) * bytes ≤ 140737488355328) (hlo : lo ≤ w.heap.size)
    (h : ∀ v' w', w'.ownsRow lo e 1 v' (n + 1) (xs ++ [u]) → w.grownBy w' v.ownBlock → SameOrNew v v' w.heap.size → K (a.put o.dst v') w') :
    if Region.wanted o (yielded ops a.tmps) = true then Oper.wp P o a w K Q else F := by
  obtain ⟨i, hi, hz, hsz, hby⟩ := info_parts E.info
  refine step_append_lies _ hgd s x t ho lo e i z 1 bytes E.slice hi hz hsz hby E.one (by decide) v n xs hs hown ⟨g, 0, none⟩ 1 1 [u] hx rfl ?_ ?_ (by decide) h63 hbytes hlo w.heap.size rfl ?_
  · intro j y hj
    match j, hj with
    | 0, hj => simp at hj; subst hj; simpa [Addr.add] using hc
  · intro y hy
    simp at hy
    subst hy
    exact hu
  · intro g cap w1 h1 h2 h3 h4
    refine h _ w1 h1 h2 ?_
    rcases h3 with h3 | h3
    · exact .inl h3.symm
    · exact .inr ⟨g, rfl, by omega⟩
end Go.Proofs.Ytocdkeidjocmkaa
