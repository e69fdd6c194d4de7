/- Slices of texts and rows of texts: read, and built. Plain facts on worlds. -/
import Derived.Test.YtfdacodbiodiaaaGreatDoorBase
import Derived.Test.YtfdacodbiodiaaaGreatDoorOwn
import Derived.Test.YtfdacodbiodiaaaGreatDoorNew
namespace Go.Proofs.YtfdacodbiodiaaaGreatDoor
set_option linter.unusedVariables false
set_option linter.unusedSimpArgs false
open Go.RowKit

/-- a slice whose block is of an element type -/
def SlT (w : World) (v : Value) (vs : List Value) (e : TypeId) : Prop := ∃ ao b o c, SlAt w v vs ao b o c ∧ (0 < vs.length → ∃ cur, w.heap[b]? = some (.cells cur e (0, 0)))
theorem SlT.sl {w : World} {v : Value} {vs : List Value} {e : TypeId} (h : SlT w v vs e) : Sl w v vs := by
  obtain ⟨ao, b, o, c, h, _⟩ := h; exact ⟨ao, b, o, c, h⟩
theorem SlT.below {w w' : World} {v : Value} {vs : List Value} {e : TypeId} (h : SlT w v vs e) (hb : Below w.heap.size w w') : SlT w' v vs e := by
  obtain ⟨ao, b, o, c, ⟨hv, ha, hc, hl⟩, ht⟩ := h
  refine ⟨ao, b, o, c, ⟨hv, ha, fun k hk => (hb.cell (block_lt_of_cell (hc k hk))).trans (hc k hk), hl⟩, fun h0 => ?_⟩
  obtain ⟨cur, hcur⟩ := ht h0
  exact ⟨cur, (hb.block b (Array.getElem?_eq_some_iff.1 hcur).1).trans hcur⟩
/-- an append to a slice of another element type -/
theorem SlT.grown {w w' : World} {v : Value} {vs : List Value} {e : TypeId} (h : SlT w v vs e) {lo : Nat} {e2 : TypeId} {s n : Nat} {v2 : Value} {xs : List Value} (ho : w.ownsRow lo e2 s v2 n xs) (hg : w.grownBy w' v2.ownBlock) (he : e2 ≠ e) : SlT w' v vs e := by
  obtain ⟨ao, b, o, c, ⟨hv, ha, hc, hl⟩, ht⟩ := h
  have hne : ∀ k, k < vs.length → v2.ownBlock ≠ some b := fun k hk hh => by
    obtain ⟨cur, hcur⟩ := ht (by omega)
    obtain ⟨cur2, hcur2⟩ := own_type ho hh
    rw [hcur2] at hcur
    simp at hcur
    exact he hcur.2
  have hblk : ∀ k, k < vs.length → w'.heap[b]? = w.heap[b]? := fun k hk => hg.block b (block_lt_of_cell (hc k hk)) (fun e => hne k hk e.symm)
  refine ⟨ao, b, o, c, ⟨hv, ha, fun k hk => (World.cell?_of_block (a := ⟨b, o + k, none⟩) (hblk k hk)).trans (hc k hk), hl⟩, fun h0 => ?_⟩
  obtain ⟨cur, hcur⟩ := ht h0
  exact ⟨cur, (hblk 0 h0).trans hcur⟩
theorem SlT.of_own {w : World} {lo : Nat} {e : TypeId} {v : Value} {n : Nat} {vs : List Value} (h : w.ownsRow lo e 1 v n vs) : SlT w v vs e := by
  obtain ⟨ao, b, o, c, hs⟩ := sl_of_own h
  refine ⟨ao, b, o, c, hs, fun h0 => ?_⟩
  have hv := hs.val
  have ha := hs.adr h0
  have hbo : v.ownBlock = some b := by rw [hv, ha]; rfl
  exact own_type h hbo

structure StrsAt (w : World) (v : Value) (bs : List ByteArray) (ao : Option Addr) (b o c : Nat) : Prop where
  val : v = .slice ao bs.length c
  adr : 0 < bs.length → ao = some ⟨b, o, none⟩
  cell : ∀ k (h : k < bs.length), w.cell? ⟨b, o + k, none⟩ = some (.string bs[k])
  len : bs.length ≤ 9223372036854775807
def Strs (w : World) (v : Value) (bs : List ByteArray) : Prop := SlT w v (bs.map Value.string) 9
theorem Strs.open {w : World} {v : Value} {bs : List ByteArray} (h : Strs w v bs) : ∃ ao b o c, StrsAt w v bs ao b o c := by
  obtain ⟨ao, b, o, c, ⟨hv, ha, hc, hl⟩, _⟩ := h
  refine ⟨ao, b, o, c, by simpa using hv, by simpa using ha, fun k hk => ?_, by simpa using hl⟩
  rw [hc k (by simpa using hk)]
  simp [List.getD_eq_getElem?_getD, hk]

/-- v reads as these rows of texts -/
def StrRows (w : World) (v : Value) (bss : List (List ByteArray)) : Prop :=
  ∃ rs : List Value, Sl w v rs ∧ rs.length = bss.length ∧ ∀ k (h : k < bss.length), Strs w (rs.getD k undef) bss[k]
structure StrRowsAt (w : World) (v : Value) (bss : List (List ByteArray)) (ao : Option Addr) (b o c : Nat) : Prop where
  val : v = .slice ao bss.length c
  adr : 0 < bss.length → ao = some ⟨b, o, none⟩
  cell : ∀ k (h : k < bss.length), ∃ r, w.cell? ⟨b, o + k, none⟩ = some r ∧ Strs w r bss[k]
  len : bss.length ≤ 9223372036854775807
theorem StrRows.open {w : World} {v : Value} {bss : List (List ByteArray)} (h : StrRows w v bss) : ∃ ao b o c, StrRowsAt w v bss ao b o c := by
  obtain ⟨rs, ⟨ao, b, o, c, hv, ha, hc, hl⟩, hn, hr⟩ := h
  exact ⟨ao, b, o, c, by rw [← hn]; exact hv, by rw [← hn]; exact ha, fun k hk => ⟨_, hc k (by omega), hr k hk⟩, by omega⟩
theorem StrRows.below {w w' : World} {v : Value} {bss : List (List ByteArray)} (h : StrRows w v bss) (hb : Below w.heap.size w w') : StrRows w' v bss := by
  obtain ⟨rs, hs, hn, hr⟩ := h
  exact ⟨rs, hs.kept hb, hn, fun k hk => (hr k hk).below hb⟩

/-- rows of texts whose outer slice the call owns -/
structure OwnSR (w : World) (lo : Nat) (v : Value) (rs : List Value) (bss : List (List ByteArray)) : Prop where
  outer : w.ownsRow lo 61 1 v bss.length rs
  row : ∀ k (h : k < bss.length), Strs w (rs.getD k undef) bss[k]
theorem OwnSR.reads {w : World} {lo : Nat} {v : Value} {rs : List Value} {bss : List (List ByteArray)} (h : OwnSR w lo v rs bss) : StrRows w v bss :=
  ⟨rs, sl_of_own h.outer, by have := h.outer.1; omega, h.row⟩
theorem OwnSR.below {w w' : World} {lo : Nat} {v : Value} {rs : List Value} {bss : List (List ByteArray)} (h : OwnSR w lo v rs bss) (hb : Below w.heap.size w w') : OwnSR w' lo v rs bss :=
  ⟨own_below h.outer hb, fun k hk => (h.row k hk).below hb⟩
theorem OwnSR.append {w w' : World} {lo : Nat} {v v' r : Value} {rs : List Value} {bss : List (List ByteArray)} {bs : List ByteArray} (h : OwnSR w lo v rs bss) (hg : w.grownBy w' v.ownBlock)
    (ho : w'.ownsRow lo 61 1 v' (bss.length + 1) (rs ++ [r])) (hr : Strs w r bs) : OwnSR w' lo v' (rs ++ [r]) (bss ++ [bs]) := by
  have hlen : rs.length = bss.length := by have := h.outer.1; omega
  refine ⟨by simpa using ho, fun k hk => ?_⟩
  rw [List.length_append, List.length_singleton] at hk
  by_cases hkn : k < bss.length
  · have e1 : (rs ++ [r]).getD k undef = rs.getD k undef := by simp [List.getD_eq_getElem?_getD, List.getElem?_append, hlen, hkn]
    have e2 : (bss ++ [bs])[k]'(by simp; omega) = bss[k] := by rw [List.getElem_append_left hkn]
    rw [e1, e2]
    exact (h.row k hkn).grown h.outer hg (by decide)
  · obtain rfl : k = bss.length := by omega
    have e1 : (rs ++ [r]).getD bss.length undef = r := by simp [List.getD_eq_getElem?_getD, ← hlen]
    have e2 : (bss ++ [bs])[bss.length]'(by simp) = bs := by simp
    rw [e1, e2]
    exact SlT.grown hr h.outer hg (by decide)
theorem OwnSR.mono {w : World} {lo lo' : Nat} {v : Value} {rs : List Value} {bss : List (List ByteArray)} (h : OwnSR w lo v rs bss) (hl : lo' ≤ lo) : OwnSR w lo' v rs bss := ⟨own_lo h.outer hl, h.row⟩

end Go.Proofs.YtfdacodbiodiaaaGreatDoor
