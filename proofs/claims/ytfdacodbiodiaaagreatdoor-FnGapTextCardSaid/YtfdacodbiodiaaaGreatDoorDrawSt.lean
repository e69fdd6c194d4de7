/- P6States: so many numbers drawn. -/
import Derived.Test.YtfdacodbiodiaaaGreatDoorDraw
import Derived.Test.YtfdacodbiodiaaaGreatDoorPush
import Derived.Test.YtfdacodbiodiaaaGreatDoorStep
namespace Go.Proofs.YtfdacodbiodiaaaGreatDoor
set_option linter.unusedVariables false
set_option linter.unusedSimpArgs false
open Go.ChangeShapes Go.WideShapes Go.ChangeAt Go.RowKit

/-- the source changed: what the call owns elsewhere lies -/
theorem own_src {w w' : World} {sb lo : Nat} {e : TypeId} {s n : Nat} {v : Value} {xs : List Value} (ho : w.ownsRow lo e s v n xs) (hg : w.grownBy w' (some sb)) (hs : sb < lo) : w'.ownsRow lo e s v n xs :=
  ho.kept hg (by
    cases hv : v.ownBlock with
    | none => exact .inl rfl
    | some q => exact .inr (fun e => by have := (own_block ho hv).1; injection e with e; omega))
theorem OwnRows.src {w w' : World} {sb lo : Nat} {v : Value} {rs : List Value} {zss : List (List Int)} (h : OwnRows w lo v rs zss) (hg : w.grownBy w' (some sb)) (hs : sb < lo) : OwnRows w' lo v rs zss :=
  ⟨own_src h.outer hg hs, fun k hk => own_src (h.row k hk) hg hs, h.apart⟩
theorem cell_src {w w' : World} {sb b o : Nat} {u : Value} (c : w.cell? ⟨b, o, none⟩ = some u) (hg : w.grownBy w' (some sb)) (hb : b ≠ sb) : w'.cell? ⟨b, o, none⟩ = some u :=
  (World.cell?_of_block (a := ⟨b, o, none⟩) (hg.block b (block_lt_of_cell c) (fun e => hb (by injection e)))).trans c
theorem frozen_src {w w' : World} {sb b o : Nat} {f : Bool} (hl : b < w.heap.size) (c : w.frozen? ⟨b, o, none⟩ = f) (hg : w.grownBy w' (some sb)) (hb : b ≠ sb) : w'.frozen? ⟨b, o, none⟩ = f :=
  (World.frozen?_of_block (a := ⟨b, o, none⟩) (hg.block b hl (fun e => hb (by injection e)))).trans c

def StatesRet (n : Nat) (m : Int) (w : World) (e : Ending) (w' : World) : Prop :=
  ∃ v, ∃ zs : List Int, e = .returned v ∧ w'.ownsRow w.heap.size 2 1 v zs.length (zs.map (Value.int .i64)) ∧ zs.length = n ∧ (∀ z ∈ zs, 0 ≤ z ∧ z < m) ∧ Below w.heap.size w w'

set_option maxRecDepth 100000 in
theorem p6States_any (v : Value) (n : Nat) (m : Int) (w : World) (h : BytesB w v w.heap.size) (hn : n ≤ 1000) (hm : 1 ≤ m) (hm2 : m ≤ 200) :
    Calls Tryz.prog 16 #[v, .int .i64 n, .int .i64 m] w (StatesRet n m w) := by
  have HF := Lib.hid (from_any v w h)
  have HPK := Lib.hid (fun sb k W (hs : SrcIn W sb k) (hk : k ≤ 1000000) => pick_any sb k m W hs hk hm2)
  clear h
  go_enter Tryz.func16, Tryz.ntmps16
  go_wp2_with fail
  refine HF.out.mono ?_
  rintro e w1 ⟨rfl, hs1, hb1, hz1⟩
  have HS1 := Lib.hid (hs1.below (below_alloc (Below.refl _ _) (.cells #[] 2)))
  have HE := Lib.hid (own_empty w1 w1.heap.size (Nat.le_refl _) 2)
  have hb2 : Below w.heap.size w (w1.alloc (.cells #[] 2)) := below_alloc hb1 _
  have hz1' : w.heap.size < w1.heap.size := by omega
  clear hs1 hz1
  go_wp2
  go_loopw [8, 9] (fun u i wr => ∃ zs : List Int, zs.length ≤ n ∧ i = .int .i64 zs.length ∧ Hid (wr.ownsRow w1.heap.size 2 1 u zs.length (zs.map (Value.int .i64))) ∧ Hid (SrcIn wr w.heap.size zs.length) ∧ Hid (∀ z ∈ zs, 0 ≤ z ∧ z < m) ∧ Below w.heap.size w wr ∧ w1.heap.size ≤ wr.heap.size) (fun _ i _ => n - (intOf i).toNat)
  case atStart => exact ⟨[], Nat.zero_le _, rfl, HE.out, HS1.out, (by intro z hz; cases hz), hb2, by simp⟩
  case round =>
    obtain ⟨zs, hzl, rfl, HO, HS, HZ, hb, hlow⟩ := hrel
    by_cases hlt : zs.length < n
    · have HP := Lib.hid (HPK.out w.heap.size zs.length wr HS.out (by omega))
      go_wp2_with fail
      refine HP.out.mono ?_
      rintro e w3 ⟨y, rfl, hy0, hy1, hs3, hg3, hz3⟩
      have HO3 := Lib.hid (own_src HO.out hg3 (by omega))
      have HS3 := Lib.hid hs3
      have hb3 : Below w.heap.size w w3 := Below.grown hb hg3 hb.size (fun g hg => by injection hg with hg; omega)
      have hlow3 : w1.heap.size ≤ w3.heap.size := by omega
      have HY := Lib.hid (hy1 hm)
      clear hs3 hg3 hy1 hz3
      go_wp2_with (at_builtin; refine wpList_push elem_int rfl (.tmp 18) (.tmp 22) rfl w1.heap.size rfl HO3.out _ rfl rfl (by unfold maxLen; omega) (by omega) hlow3 ?_; intro v6 w6 ho6 hg6 hs6)
      have hb6 : Below w.heap.size w w6 := Below.grown hb3 hg6 hb3.size (fun g hg => by have := (own_block HO3.out hg).1; omega)
      have HS6 := Lib.hid (HS3.out.grown hg6 (fun g hg => by have := (own_block HO3.out hg).1; omega))
      have hlow6 := Nat.le_trans hlow3 hg6.size
      have HO6 := Lib.hid ho6
      clear ho6 hg6 hs6
      go_wp2
      go_roundw
      case rel =>
        refine ⟨zs ++ [y], (by rw [List.length_append, List.length_singleton]; omega), (by simp), ?_, ?_, ?_, hb6, hlow6⟩
        · unfold Hid; simpa using HO6.out
        · unfold Hid; simpa using HS6.out
        · intro z hz
          rcases List.mem_append.1 hz with h | h
          · exact HZ.out z h
          · rw [List.mem_singleton] at h; subst h; exact ⟨hy0, HY.out⟩
      case measure => simp [intOf]; omega
    · obtain rfl : n = zs.length := by omega
      go_wp2
      go_ret
      exact ⟨_, zs, rfl, own_lo HO.out (by omega), rfl, HZ.out, hb⟩
end Go.Proofs.YtfdacodbiodiaaaGreatDoor
