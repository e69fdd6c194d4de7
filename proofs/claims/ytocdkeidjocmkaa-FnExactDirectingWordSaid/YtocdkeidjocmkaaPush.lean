/- One element appended to a slice that the call owns; a byte slice that the call owns made a string. Laws over any program. -/
import Derived.Test.YtocdkeidjocmkaaOwn
import Derived.Laws.IdiomStrings
import Derived.ArgAppend
import Derived.Lib.BufferRead
namespace Go.Proofs.Ytocdkeidjocmkaa
set_option linter.unusedVariables false
set_option linter.unusedSimpArgs false
open Go.RowKit

/-- what the program's table says of a slice type t over elements e of one cell -/
structure Elem (P : Program) (t e : TypeId) (z : Value) (bytes : Nat) : Prop where
  slice : P.underlying t = some (.slice e)
  info : (P.info? e).map (fun i => (i.zero, i.size, i.bytes)) = some (some z, 1, bytes)
  one : z.cells.size = 1

/-- the block is the old one or a new one -/
def SameOrNew (v v' : Value) (B : Nat) : Prop := v'.ownBlock = v.ownBlock ∨ ∃ k, v'.ownBlock = some k ∧ B ≤ k

/-- append of m elements to a slice that the call owns -/
theorem wpList_appendE {P : Program} {t e : TypeId} {z : Value} {bytes : Nat} (E : Elem P t e z bytes) {w : World} {ops : Array Oper} {rest : List Oper} {o : Oper} {a : Act} {Q : Exit → Act → World → Prop} (hgd : o.guard = none) (s x : Operand)
    (ho : o.op = .call { callee := .builtin .append, args := #[s, x], argTypes := #[t, t] })
    (lo : Nat) {v : Value} {n : Nat} {xs : List Value} (hs : a.eval s = v) (hown : w.ownsRow lo e 1 v n xs) (ad : Addr) (m c : Nat) (news : List Value) (hx : a.eval x = .slice (some ad) m c)
    (hl : news.length = m) (hc : ∀ j u, news[j]? = some u → w.cell? (ad.add j) = some u) (hu : ∀ u ∈ news, u.oneCell' = true)
    (h63 : n + m ≤ maxLen) (hbytes : (n + m) * bytes ≤ 140737488355328) (hlo : lo ≤ w.heap.size)
    (h : ∀ v' w', w'.ownsRow lo e 1 v' (n + m) (xs ++ news) → w.grownBy w' v.ownBlock → SameOrNew v v' w.heap.size → wpList P ops Q rest (a.put o.dst v') w') :
    wpList P ops Q (o :: rest) a w := by
  obtain ⟨i, hi, hz, hsz, hby⟩ := info_parts E.info
  have hgrow : 0 < n + m → ∀ v' w', w'.ownsRow w.heap.size e 1 v' (n + m) (xs ++ news) → w.grownBy w' none → wpList P ops Q rest (a.put o.dst v') w' := by
    intro hpos v' w' h1 h2
    refine h v' w' (own_lo h1 hlo) ⟨h2.os, h2.tape, h2.output, h2.size, fun k hk _ => h2.block k hk (by simp)⟩ ?_
    obtain ⟨g, cap, rfl, _⟩ := own_some h1 hpos
    exact .inr ⟨g, rfl, (own_block h1 rfl).1⟩
  rcases hown.2 with ⟨rfl, rfl⟩ | ⟨g, cap, cur, rfl, hg1, hg2, hnc, hcm, hcs, htake⟩
  · by_cases hm : m = 0
    · refine wpList_append_own w hgd s x t ho lo e i z 1 bytes E.slice hi hz hsz hby E.one (by decide) _ 0 xs hs hown ad m c news hx (by omega) hc hu h63 hbytes hlo ?_
      intro v' w' h1 h2 h3
      refine h v' w' h1 h2 (.inl ?_)
      rw [h3.2 ⟨rfl, hm⟩]
    · refine wpList_append_grows w hgd s x t ho e i z 1 bytes E.slice hi hz hsz hby E.one (by decide) none 0 0 xs hs (fun _ => ⟨rfl, rfl⟩) hown.1 (fun b hb => by cases hb) ad m c news hx (by omega) hc hu (by omega) h63 hbytes (hgrow (by omega))
  · by_cases hroom : n + m ≤ cap
    · refine wpList_append_fits w hgd s x t ho lo e i 1 E.slice hi hsz g n cap xs hs hown ad m c news hx (by omega) hc hu hroom ?_
      intro w' h1 h2
      exact h _ w' h1 h2 (.inl rfl)
    · refine wpList_append_grows w hgd s x t ho e i z 1 bytes E.slice hi hz hsz hby E.one (by decide) (some ⟨g, 0, none⟩) n cap xs hs (fun hh => by cases hh) hown.1 (fun b hb => by cases hb; exact hown.cells (g := g) rfl) ad m c news hx (by omega) hc hu (by omega) h63 hbytes (hgrow (by omega))

/-- append of one element -/
theorem wpList_push {P : Program} {t e : TypeId} {z : Value} {bytes : Nat} (E : Elem P t e z bytes) {w : World} {ops : Array Oper} {rest : List Oper} {o : Oper} {a : Act} {Q : Exit → Act → World → Prop} (hgd : o.guard = none) (s x : Operand)
    (ho : o.op = .call { callee := .builtin .append, args := #[s, x], argTypes := #[t, t] })
    (lo : Nat) {v : Value} {n : Nat} {xs : List Value} (hs : a.eval s = v) (hown : w.ownsRow lo e 1 v n xs) (u : Value) (hx : a.eval x = .slice (some ⟨w.heap.size, 0, none⟩) 1 1) (hu : u.oneCell' = true)
    (h63 : n + 1 ≤ maxLen) (hbytes : (n + 1) * bytes ≤ 140737488355328) (hlo : lo ≤ w.heap.size)
    (h : ∀ v' w', w'.ownsRow lo e 1 v' (n + 1) (xs ++ [u]) → w.grownBy w' v.ownBlock → SameOrNew v v' w.heap.size → wpList P ops Q rest (a.put o.dst v') w') :
    wpList P ops Q (o :: rest) a (w.alloc (.cells #[u] e)) := by
  refine wpList_appendE E hgd s x ho lo hs (hown.alloc _) ⟨w.heap.size, 0, none⟩ 1 1 [u] hx rfl ?_ ?_ h63 hbytes (by simp; omega) ?_
  · intro j y hj
    match j, hj with
    | 0, hj => simp at hj; subst hj; simp [Addr.add]
  · intro y hy
    simp at hy
    subst hy
    exact hu
  · intro v' w' h1 h2 h3
    refine h v' w' h1 ⟨h2.os, h2.tape, h2.output, by have := h2.size; simp at this; omega, fun k hk hr => (h2.block k (by simp; omega) hr).trans (Below.heap_alloc w _ k hk)⟩ ?_
    rcases h3 with h3 | ⟨k, h3, h4⟩
    · exact .inl h3
    · exact .inr ⟨k, h3, by simp at h4; omega⟩

/-- what another slice owns stays owned, and apart -/
theorem push_other {w w' : World} {lo2 : Nat} {e2 : TypeId} {s2 : Nat} {v v' v2 : Value} {n2 : Nat} {x2 : List Value} (hg : w.grownBy w' v.ownBlock) (hs : SameOrNew v v' w.heap.size) (h2 : w.ownsRow lo2 e2 s2 v2 n2 x2)
    (hne : v2.ownBlock = none ∨ v2.ownBlock ≠ v.ownBlock) : w'.ownsRow lo2 e2 s2 v2 n2 x2 ∧ (v2.ownBlock = none ∨ v2.ownBlock ≠ v'.ownBlock) := by
  refine ⟨h2.kept hg hne, ?_⟩
  cases hv : v2.ownBlock with
  | none => exact .inl rfl
  | some g =>
    refine .inr fun hh => ?_
    rcases hs with hs | ⟨k, hs, hk⟩
    · rcases hne with hne | hne
      · rw [hne] at hv; simp at hv
      · exact hne (by rw [hv, hh, hs])
    · rw [hs] at hh
      have := own_block h2 hv
      simp at hh
      omega
theorem apart_symm {a b : Option Nat} (h : a = none ∨ a ≠ b) : b = none ∨ b ≠ a := by
  rcases h with rfl | h
  · cases b with
    | none => exact .inl rfl
    | some k => exact .inr (by simp)
  · exact .inr fun e => h e.symm

/-- the bytes l as cells -/
def byteVals (l : List UInt8) : List Value := l.map fun b => .int .u8 (b.toNat : Int)
theorem byteVals_length (l : List UInt8) : (byteVals l).length = l.length := by simp [byteVals]
theorem byteVals_snoc (l : List UInt8) (b : UInt8) : byteVals l ++ [.int .u8 (b.toNat : Int)] = byteVals (l ++ [b]) := by simp [byteVals]

theorem run_string_own {P : Program} {w : World} {src dst e : TypeId} {lo : Nat} {v : Value} {n : Nat} {l : List UInt8} (hs : P.underlying src = some (.slice e)) (he : P.underlying e = some (.int .u8)) (hd : P.underlying dst = some .string)
    (hown : w.ownsRow lo e 1 v n (byteVals l)) : (convert src dst v).run P w = .ok (.string ⟨l.toArray⟩) w := by
  have hl : l.length = n := by have := hown.1; rw [byteVals_length] at this; omega
  subst hl
  rcases hown.2 with ⟨rfl, hn⟩ | ⟨g, cap, cur, rfl, _⟩
  · have : l = [] := List.eq_nil_of_length_eq_zero hn
    subst this
    exact Lib.run_convert_nil_bytes w src dst e 0 hs he hd
  · refine run_convert_bytes_back w src dst e ⟨g, 0, none⟩ cap l hs he hd fun j hj => ?_
    have := hown.cellAt j (by omega)
    rw [Addr.add_lit, Nat.zero_add, this]
    simp [byteVals, hj]

end Go.Proofs.Ytocdkeidjocmkaa
