/- MonoidOf of the program. -/
import Derived.Test.YtocdkeidjocmkaaMonoidMid
import Derived.Test.YtocdkeidjocmkaaKeyOf
import Derived.Test.YtocdkeidjocmkaaMap
import Derived.Test.YtocdkeidjocmkaaValid
import Derived.Test.YtocdkeidjocmkaaTourI
import Derived.Deep.RegionLaw
namespace Go.Proofs.Ytocdkeidjocmkaa
set_option linter.unusedVariables false
set_option linter.unusedSimpArgs false
open Go.ChangeShapes Go.WideShapes Go.ChangeAt Go.RowKit

theorem str_law : Maps.Keyed Try.prog 9 := Maps.string_keyed Try.underlying9
theorem key_str (l : List UInt8) (h : l.length ≤ 1000) : keyOf Try.prog 9 (.string ⟨l.toArray⟩) = some (.string l) := by
  rw [keyOf_string Try.underlying9]
  unfold mapKey
  rw [Try.underlying9]
  have hs : (⟨l.toArray⟩ : ByteArray).size ≤ maxLen := by
    show l.toArray.size ≤ maxLen
    unfold maxLen
    simp
    omega
  simp only [hs, if_true]
theorem zero_bool (w : World) : (zeroValue 4).run Try.prog w = .ok (.bool false) w := by kernel_rfl
/-- the map holds the actions that are known -/
def Known (w : World) (mb n : Nat) (K : List (List Int)) : Prop :=
  ∃ F, MapAt Try.prog 9 w mb K.length F ∧ ∀ zs : List Int, (zs.length = n ∧ ∀ z ∈ zs, 0 ≤ z ∧ z < (n : Int)) → F (.string (keyB zs)) = if zs ∈ K then some (.bool true) else none
theorem Known.below {w w' : World} {mb n : Nat} {K : List (List Int)} (h : Known w mb n K) (hb : Below w.heap.size w w') : Known w' mb n K := by
  obtain ⟨F, h1, h2⟩ := h
  exact ⟨F, h1.below hb, h2⟩
theorem Known.kept {w w' : World} {mb n : Nat} {K : List (List Int)} (h : Known w mb n K) {lo : Nat} {e : TypeId} {s : Nat} {v : Value} {m : Nat} {xs : List Value} (ho : w.ownsRow lo e s v m xs) (hg : w.grownBy w' v.ownBlock) : Known w' mb n K := by
  obtain ⟨F, h1, h2⟩ := h
  exact ⟨F, h1.kept hg (h1.ne_own ho), h2⟩
theorem Known.put {w' : World} {mb n : Nat} {K : List (List Int)} {F : Lit → Option Value} {y : List Int} (hn : n ≤ 10) (hf : ∀ zs : List Int, (zs.length = n ∧ ∀ z ∈ zs, 0 ≤ z ∧ z < (n : Int)) → F (.string (keyB zs)) = if zs ∈ K then some (.bool true) else none) (hy : y.length = n ∧ ∀ z ∈ y, 0 ≤ z ∧ z < (n : Int))
    (hm : MapAt Try.prog 9 w' mb (K.length + 1) (putF F (.string (keyB y)) (.bool true))) : Known w' mb n (K ++ [y]) := by
  refine ⟨_, by rw [List.length_append]; exact hm, fun zs hz => ?_⟩
  by_cases he : zs = y
  · subst he
    rw [putF_same (k := .string (keyB zs)) trivial, if_pos (by simp)]
  · rw [putF_other (by intro e; injection e with e; exact he (keyB_inj hn hz.2 hy.2 e)), hf zs hz]
    by_cases hk : zs ∈ K
    · rw [if_pos hk, if_pos (by simp [hk])]
    · rw [if_neg hk, if_neg (by simp [hk, he])]
theorem MMid.putMap {W w w' : World} {lo mb : Nat} {av wv : Value} {K Z : List (List Int)} (h : MMid W w lo av wv K Z) (hg : w.grownBy w' (some mb)) (hl : lo ≤ mb) (hne : ∀ {lo2 : Nat} {e : TypeId} {s : Nat} {v : Value} {m : Nat} {xs : List Value}, w.ownsRow lo2 e s v m xs → some mb ≠ v.ownBlock) : MMid W w' lo av wv K Z := by
  have hk : ∀ {lo2 : Nat} {e : TypeId} {s : Nat} {v : Value} {m : Nat} {xs : List Value}, w.ownsRow lo2 e s v m xs → w'.ownsRow lo2 e s v m xs := fun ho => ho.kept hg (by
    rename_i v _ _
    cases hv : v.ownBlock with
    | none => exact .inl rfl
    | some g => exact .inr (fun e => hne ho (by rw [hv, ← e])))
  obtain ⟨ra, ha⟩ := h.acts
  obtain ⟨rw, hw, hnn⟩ := h.words
  exact ⟨⟨ra, ⟨hk ha.outer, fun k hkk => hk (ha.row k hkk), ha.apart⟩⟩, ⟨rw, ⟨hk hw.outer, fun k hkk => hk (hw.row k hkk), hw.apart⟩, hnn⟩, h.apart, h.below.grown hg h.low (fun g hg => by cases hg; exact hl), Nat.le_trans h.low hg.size⟩
theorem OwnRows.mapKept {w w' : World} {lo mb : Nat} {v : Value} {rs : List Value} {zss : List (List Int)} (h : OwnRows w lo v rs zss) (hg : w.grownBy w' (some mb)) (hne : ∀ {lo2 : Nat} {e : TypeId} {s : Nat} {v : Value} {m : Nat} {xs : List Value}, w.ownsRow lo2 e s v m xs → some mb ≠ v.ownBlock) : OwnRows w' lo v rs zss := by
  have hk : ∀ {lo2 : Nat} {e : TypeId} {s : Nat} {v : Value} {m : Nat} {xs : List Value}, w.ownsRow lo2 e s v m xs → w'.ownsRow lo2 e s v m xs := fun ho => ho.kept hg (by
    rename_i v _ _
    cases hv : v.ownBlock with
    | none => exact .inl rfl
    | some g => exact .inr (fun e => hne ho (by rw [hv, ← e])))
  exact ⟨hk h.outer, fun k hkk => hk (h.row k hkk), h.apart⟩
theorem own_mapKept {w w' : World} {mb lo2 : Nat} {e : TypeId} {s : Nat} {v : Value} {m : Nat} {xs : List Value} (ho : w.ownsRow lo2 e s v m xs) (hg : w.grownBy w' (some mb)) (hne : some mb ≠ v.ownBlock) : w'.ownsRow lo2 e s v m xs := ho.kept hg (by
    cases hv : v.ownBlock with
    | none => exact .inl rfl
    | some g => exact .inr (fun e => hne (by rw [hv, ← e])))
theorem grown_of_alloc {w w' : World} {o : Obj} {row : Option Nat} (hg : (w.alloc o).grownBy w' row) : w.grownBy w' row :=
  ⟨hg.os, hg.tape, hg.output, by have := hg.size; simp at this; omega, fun k hk hr => (hg.block k (by simp; omega) hr).trans (Below.heap_alloc w o k hk)⟩
theorem grown_of_drew {w w' : World} {row : Option Nat} (hg : w.drew.grownBy w' row) : w.grownBy w' row := ⟨hg.os, hg.tape, hg.output, hg.size, hg.block⟩
theorem same_mono {v v' : Value} {B B' : Nat} (h : SameOrNew v v' B) (hB : B' ≤ B) : SameOrNew v v' B' := by
  rcases h with h | ⟨k, h1, h2⟩
  · exact .inl h
  · exact .inr ⟨k, h1, Nat.le_trans hB h2⟩
theorem run_ids (n : Nat) : (List.range n).map (fun (s : Nat) => (s : Int)) = run 0 n := by
  unfold run
  simp
theorem actBy_snocI {row a : List Int} {s : Nat} (h : s < a.length) : ((actBy row a).take s).map (Value.int .i64) ++ [.int .i64 (row.getD (a.getD s 0).toNat 0)] = ((actBy row a).take (s + 1)).map (Value.int .i64) := by
  have h2 : s < (actBy row a).length := by simp [actBy, h]
  rw [List.take_succ_eq_append_getElem h2, List.map_append]
  simp [actBy, List.getD_eq_getElem?_getD, h]
theorem rows_atI {w : World} {v : Value} {xss : List (List Int)} (h : Rows2 w v xss) {x : Nat} (hx : x < xss.length) {n : Nat} (hn : (xss.getD x []).length = n) (h0 : 0 < n) : ∃ ab ao ac rb ro rc, v = .slice (some ⟨ab, ao, none⟩) xss.length ac ∧ w.cell? ⟨ab, ao + x, none⟩ = some (.slice (some ⟨rb, ro, none⟩) n rc) ∧ ∀ i, i < n → w.cell? ⟨rb, ro + i, none⟩ = some (.int .i64 ((xss.getD x []).getD i 0)) := by
  obtain ⟨ad, ab, ao, ac, H⟩ := h.open
  obtain ⟨r, d, hr⟩ := H.cell x hx
  obtain ⟨rd, rb, ro, rc, R⟩ := hr.open
  have e1 := H.adr (by omega)
  have e2 := R.adr (by omega)
  refine ⟨ab, ao, ac, rb, ro, rc, by rw [H.val, e1], ?_, fun i hi => R.cell i (by omega)⟩
  rw [d, R.val, e2, hn]
/-- step_push, wherever the new element's cell lies -/
theorem step_appSM {P : Program} {t e : TypeId} {z : Value} {bytes : Nat} (E : Elem P t e z bytes) {w : World} {ops : Array Oper} {o : Oper} {a : Act} {K : Act → World → Prop} {Q : Exit → Act → World → Prop} {F : Prop} (hgd : o.guard = none) (s x : Operand)
    (ho : o.op = .call { callee := .builtin .append, args := #[s, x], argTypes := #[t, t] })
    (lo : Nat) {v : Value} {n : Nat} {xs : List Value} (hs : a.eval s = v) (hown : w.ownsRow lo e 1 v n xs) (g : Nat) (u : Value) (hx : a.eval x = .slice (some ⟨g, 0, none⟩) 1 1) (hc : w.cell? ⟨g, 0, none⟩ = some u) (hu : u.oneCell' = true)
    (h63 : n + 1 ≤ maxLen) (hbytes : (n + 1) * bytes ≤ 140737488355328) (hlo : lo ≤ w.heap.size)
    (h : ∀ v' w', w'.ownsRow lo e 1 v' (n + 1) (xs ++ [u]) → w.grownBy w' v.ownBlock → SameOrNew v v' w.heap.size → K (a.put o.dst v') w') :
    if Region.wanted o (yielded ops a.tmps) = true then Oper.wp P o a w K Q else F := by
  obtain ⟨i, hi, hz, hsz, hby⟩ := info_parts E.info
  refine step_append_lies _ hgd s x t ho lo e i z 1 bytes E.slice hi hz hsz hby E.one (by decide) v n xs hs hown ⟨g, 0, none⟩ 1 1 [u] hx rfl ?_ ?_ (by decide) h63 hbytes hlo w.heap.size rfl ?_
  · intro j y hj
    match j, hj with
    | 0, hj => simp at hj; subst hj; simpa [Addr.add] using hc
  · intro y hy
    simp at hy
    subst hy
    exact hu
  · intro g cap w1 h1 h2 h3 h4
    refine h _ w1 h1 h2 ?_
    rcases h3 with h3 | h3
    · exact .inl h3.symm
    · exact .inr ⟨g, rfl, by omega⟩

/-- the lists and the map -/
structure MI (W w : World) (lo mb n : Nat) (av wv : Value) (T : Mon) : Prop where
  mid : MMid W w lo av wv T.keys (T.map Prod.snd)
  map : Known w mb n T.keys
theorem MI.next {W w w' : World} {lo mb n : Nat} {av wv : Value} {T : Mon} (h : MI W w lo mb n av wv T) (hb : Below w.heap.size w w') : MI W w' lo mb n av wv T := ⟨h.mid.next hb, h.map.below hb⟩
def MonPostI (M : Mon) (w : World) (e : Ending) (w' : World) : Prop :=
  ∃ v v2, e = .returned (.tuple #[v, v2, .bool (decide (M.length ≤ 400))]) ∧ (M.length ≤ 400 → ∃ rs, OwnRows w' w.heap.size v rs M.keys) ∧ Below w.heap.size w w'

set_option maxRecDepth 100000 in
set_option maxHeartbeats 8000000 in
theorem monoid_any (st : Int) (v : Value) (xss : List (List Int)) (n : Nat) (w : World) (h1 : Rows2 w v xss) (hg : Good st n xss) :
    Calls Try.prog 57 #[.agg #[.int .i64 st, v]] w (MonPostI (monT xss n) w) := by
  have hn10 := hg.hi
  have HSTOP0 := Lib.hid (fun k => monT_stop (rows := xss) (n := n) (i := k))
  have HMANY0 := Lib.hid (fun k => monT_many (rows := xss) (n := n) (i := k))
  generalize monT xss n = M at HSTOP0 HMANY0 ⊢
  have hn1 := hg.lo
  have hl1 := hg.len1
  have hl3 := hg.len3
  obtain ⟨ao, m, c, rfl, HM⟩ := h1.shape
  obtain rfl : m = xss.length := HM.out
  obtain rfl := hg.st
  have HG := Lib.hid hg
  have HGM := Lib.hid (fun i => GoodM.outer hg i)
  have bx : Below w.heap.size w (w.alloc (.cells #[.int .i64 n, .slice ao xss.length c] 44)) := below_alloc (Below.refl _ _) _
  obtain ⟨W1, hW1⟩ : ∃ W1, W1 = w.alloc (.cells #[.int .i64 n, .slice ao xss.length c] 44) := ⟨_, rfl⟩
  have p1 : W1.cell? ⟨w.heap.size, 1, none⟩ = some (.slice ao xss.length c) := by rw [hW1]; go_simp
  rw [← hW1] at bx
  have H1 := Lib.hid (h1.kept bx)
  have HACT := Lib.hid (fun W => autoAction_nil n n xss.length c ao W rfl hn10)
  rw [run_ids] at HACT
  have HKEY := Lib.hid (fun (u : Value) (zs : List Int) W (hu : Ints W u zs) (hz : zs.length = n ∧ ∀ z ∈ zs, 0 ≤ z ∧ z < (n : Int)) => keyOf_any u zs W hu (by omega) (fun z hzz => by have := hz.2 z hzz; omega))
  have hmm := @run_makeMap Try.prog
  have sW1 : W1.heap.size = w.heap.size + 1 := by rw [hW1]; simp
  obtain ⟨X1, hX1⟩ : ∃ X1, X1 = W1 := ⟨_, rfl⟩
  rw [← hX1] at H1 bx p1 sW1
  rw [hW1] at hX1
  have HX1 := Lib.hid hX1
  have hwX : w.heap.size < X1.heap.size := by omega
  subst hW1
  clear h1 hg sW1 hX1
  go_enter Try.func57, Try.ntmps57
  go_wp2_with fail
  refine (HACT.out _).mono ?_
  rintro e w2 ⟨v2, rfl, ho2, hb2⟩
  obtain ⟨g2, c2, rfl, _⟩ := own_some ho2 (by rw [run_length]; exact hn1)
  rw [run_length] at ho2
  rw [run_length]
  have hb2' : Below X1.heap.size X1 w2 := by rw [HX1.out]; exact hb2
  have r1 := below_cell hb2' p1
  rw [← HX1.out] at ho2
  obtain ⟨W3, hW3⟩ : ∃ W3, W3 = ((w2.alloc (.cells #[.slice (some ⟨g2, 0, none⟩) n c2] 55)).alloc (.cells #[] 2)).alloc (.cells #[.slice (some ⟨w2.heap.size + 1, 0, none⟩) 0 0] 55) := ⟨_, rfl⟩
  have hw2 := hb2'.size
  have hb3 : Below w2.heap.size w2 W3 := by rw [hW3]; exact below_alloc (below_alloc (below_alloc (Below.refl _ _) _) _) _
  have s3 : W3.heap.size = w2.heap.size + 1 + 1 + 1 := by rw [hW3]; simp
  have ws : W3.ownsRow X1.heap.size 55 1 (.slice (some ⟨w2.heap.size, 0, none⟩) 1 1) 1 [.slice (some ⟨g2, 0, none⟩) n c2] := by
    rw [hW3]
    exact ((World.ownsRow_lit (base := X1.heap.size) (size := 1) (e := 55) w2 #[.slice (some ⟨g2, 0, none⟩) n c2] 1 hw2 (by unfold maxLen; omega) (by simp)).alloc _).alloc _
  have wr0 : W3.ownsRow X1.heap.size 55 1 (.slice (some ⟨w2.heap.size + 1 + 1, 0, none⟩) 1 1) 1 [.slice (some ⟨w2.heap.size + 1, 0, none⟩) 0 0] := by
    rw [hW3]
    have := World.ownsRow_lit (base := X1.heap.size) (size := 1) (e := 55) ((w2.alloc (.cells #[.slice (some ⟨g2, 0, none⟩) n c2] 55)).alloc (.cells #[] 2)) #[.slice (some ⟨w2.heap.size + 1, 0, none⟩) 0 0] 1 (by simp; omega) (by unfold maxLen; omega) (by simp)
    simpa using this
  have we : W3.ownsRow X1.heap.size 2 1 (.slice (some ⟨w2.heap.size + 1, 0, none⟩) 0 0) 0 [] := by
    rw [hW3]
    have := (own_empty (w2.alloc (.cells #[.slice (some ⟨g2, 0, none⟩) n c2] 55)) X1.heap.size (by simp; omega) 2).alloc (.cells #[.slice (some ⟨w2.heap.size + 1, 0, none⟩) 0 0] 55)
    simpa using this
  have hA : OwnRows W3 X1.heap.size (.slice (some ⟨w2.heap.size, 0, none⟩) 1 1) [.slice (some ⟨g2, 0, none⟩) n c2] [run 0 n] :=
    ⟨ws, fun k hk => by simp at hk; subst hk; show W3.ownsRow X1.heap.size 2 1 _ (run 0 n).length _; rw [run_length]; exact own_below ho2 hb3, fun i j h1 h2 => by simp at h2; omega⟩
  have hO : OwnRows W3 X1.heap.size (.slice (some ⟨w2.heap.size + 1 + 1, 0, none⟩) 1 1) [.slice (some ⟨w2.heap.size + 1, 0, none⟩) 0 0] [[]] :=
    ⟨wr0, fun k hk => by simp at hk; subst hk; exact we, fun i j h1 h2 => by simp at h2; omega⟩
  have hM : MMid X1 W3 X1.heap.size (.slice (some ⟨w2.heap.size, 0, none⟩) 1 1) (.slice (some ⟨w2.heap.size + 1 + 1, 0, none⟩) 1 1) [run 0 n] [[]] :=
    ⟨⟨_, hA⟩, ⟨_, hO, fun k hk => by simp at hk; subst hk; simp [Value.ownBlock]⟩, .inr (by simp [Value.ownBlock]; omega), hb2'.trans (hb3.mono hw2), Nat.le_trans hw2 hb3.size⟩
  have hM4 := hM.next (below_alloc (Below.refl _ _) (.map #[] 0))
  have hF := MapAt.made Try.prog 9 W3
  obtain ⟨W4, hW4⟩ : ∃ W4, W4 = W3.alloc (.map #[] 0) := ⟨_, rfl⟩
  rw [← hW4] at hM4 hF
  obtain ⟨mb, hmb⟩ : ∃ mb, mb = W3.heap.size := ⟨_, rfl⟩
  rw [← hmb] at hF
  have hg4 : Ints W4 (.slice (some ⟨g2, 0, none⟩) n c2) (run 0 n) := by
    have h := (own_below ho2 hb3).alloc (.map #[] 0)
    rw [← hW4] at h
    have e : n = (run 0 n).length := by rw [run_length]
    rw [e] at h
    have := ints_of_own h
    rw [run_length] at this
    exact this
  have hrun : (run 0 n).length = n ∧ ∀ z ∈ run 0 n, 0 ≤ z ∧ z < (n : Int) := (GoodM.start n).key (run 0 n, []) (by simp)
  have HK0 := Lib.hid (HKEY.out _ (run 0 n) W4 hg4 hrun)
  have HRUN := Lib.hid hrun
  have HM4 := Lib.hid hM4
  have HF4 := Lib.hid hF
  have q4 : W4.cell? ⟨w2.heap.size, 0, none⟩ = some (.slice (some ⟨g2, 0, none⟩) n c2) := by rw [hW4, hW3]; go_simp
  have hmbl : X1.heap.size ≤ mb := by omega
  have HKS := Lib.hid (key_str (keyB (run 0 n)) (by simp [keyB, run_length]; omega))
  have r4 : W4.cell? ⟨w.heap.size, 1, none⟩ = some (.slice ao xss.length c) := by rw [hW4]; exact below_cell (below_alloc hb3 _) r1
  have hmbe : mb = w2.heap.size + 1 + 1 + 1 := by omega
  have HMBE := Lib.hid hmbe
  have HW4 : Hid (W4 = (((w2.alloc (.cells #[.slice (some ⟨g2, 0, none⟩) n c2] 55)).alloc (.cells #[] 2)).alloc (.cells #[.slice (some ⟨w2.heap.size + 1, 0, none⟩) 0 0] 55)).alloc (.map #[] 0)) := by unfold Hid; rw [hW4, hW3]
  clear hM hM4 hF hO hA we wr0 ws hb3 ho2 hb2 hg4 hrun hmb hW4 hW3 s3 hmbe r1
  go_wp2_with fail
  rw [← HW4.out]
  refine HK0.out.mono ?_
  rintro e w5 ⟨rfl, hb5⟩
  have HM5 := Lib.hid (HM4.out.next hb5)
  have HF5 := Lib.hid (HF4.out.below hb5)
  have r5 := below_cell hb5 r4
  have hzw := block_lt_of_cell r4
  clear hb5 q4
  rw [← HMBE.out]
  go_wp2_with fail
  refine upon_put HF5.out str_law Try.underlying123 (by unfold maxLen; omega) HKS.out ?_
  intro w6 hm6 hg6
  have hM6 := HM5.out.putMap hg6 hmbl (fun ho => HF5.out.ne_own ho)
  have hK6 : Known w6 mb n [run 0 n] := Known.put (K := []) (F := fun _ => none) hn10 (fun zs _ => by simp) HRUN.out hm6
  have HI6 : Hid (MI X1 w6 X1.heap.size mb n (.slice (some ⟨w2.heap.size, 0, none⟩) 1 1) (.slice (some ⟨w2.heap.size + 1 + 1, 0, none⟩) 1 1) (outerM xss n 0)) := ⟨hM6, hK6⟩
  clear hM6 hK6 hm6 hg6 HM5 HF5 HK0 HM4 HF4 r5 hzw HW4 HRUN HKS r4 HMBE
  obtain ⟨b0, hb0⟩ : ∃ b0, b0 = w2.heap.size := ⟨_, rfl⟩
  go_wp2
  go_loopw [5, 6, 8] (fun av wv i wr => ∃ k : Nat, k ≤ (outerM xss n k).length ∧ (outerM xss n k).length ≤ 400 ∧ i = .int .i64 k ∧ Hid (MI X1 wr X1.heap.size mb n av wv (outerM xss n k))) (fun _ _ i _ => 1024 - (intOf i).toNat)
  case atStart => exact ⟨0, Nat.zero_le _, by simp [outerM_zero], rfl, HI6.out⟩
  case round =>
    obtain ⟨k, hk, h400, rfl, HI⟩ := hrel
    have hpos := outerM_pos xss n k
    have HRD := Lib.hid (fun (h : k < (outerM xss n k).length) => outerM_round h)
    have HSTOP := Lib.hid (HSTOP0.out k)
    have HMANY := Lib.hid (HMANY0.out k)
    have HGT := Lib.hid (HGM.out k)
    obtain ⟨T, hT⟩ : ∃ T, T = outerM xss n k := ⟨_, rfl⟩
    rw [← hT] at hk h400 HI hpos HRD HSTOP HMANY HGT
    have HT := Lib.hid hT
    clear hT
    obtain ⟨⟨⟨rsA, hA⟩, ⟨rsW, hW, hnn⟩, hap, hbw, hlo⟩, hkn⟩ := HI.out
    obtain ⟨ag, ac, rfl, _⟩ := own_some hA.outer (by rw [Mon.keys_len]; exact hpos)
    obtain ⟨wg, wc, rfl, _⟩ := own_some hW.outer (by rw [List.length_map]; exact hpos)
    rw [Mon.keys_len, List.length_map] at HI
    rw [Mon.keys_len, List.length_map]
    have q1 := below_cell hbw p1
    clear hA hW hnn hap hkn
    by_cases hlt : k < T.length
    · go_wp2
      go_loopw [5, 6, 35] (fun av wv i wr => ∃ x : Nat, x ≤ xss.length ∧ i = .int .i64 x ∧ Hid (MI X1 wr X1.heap.size mb n av wv (innerM xss k T x))) (fun _ _ i _ => xss.length - (intOf i).toNat)
      case atStart => exact ⟨0, Nat.zero_le _, rfl, HI.out⟩
      case round =>
        obtain ⟨x, hx, rfl, HX⟩ := hrel
        have hgx := GoodM.inner HG.out HGT.out hlt x hx
        have hTx := innerM_len xss k T x
        have hatx := innerM_at xss k T x hlt
        have HSTX := Lib.hid (innerM_succ xss k T x)
        have HEND := Lib.hid (fun (h : x = xss.length) => (show innerM xss k T x = innerM xss k T xss.length by rw [h]))
        obtain ⟨U, hU⟩ : ∃ U, U = innerM xss k T x := ⟨_, rfl⟩
        rw [← hU] at HX hgx hTx hatx HSTX HEND
        have hUk : k < U.length := by omega
        have hU4 : U.length ≤ 403 := by omega
        clear hU
        obtain ⟨⟨⟨rsA, hA⟩, ⟨rsW, hW, hnn⟩, hap, hbw, hlo⟩, hkn⟩ := HX.out
        obtain ⟨ag2, ac2, rfl, _⟩ := own_some hA.outer (by rw [Mon.keys_len]; omega)
        obtain ⟨wg2, wc2, rfl, _⟩ := own_some hW.outer (by rw [List.length_map]; omega)
        rw [Mon.keys_len, List.length_map] at HX
        rw [Mon.keys_len, List.length_map]
        by_cases hltx : x < xss.length
        · obtain ⟨wo, rfl⟩ : ∃ wo : World, wo = wr := ⟨_, rfl⟩
          have hkey := hgx.key _ (Mon.at_mem hUk)
          have hwl := hgx.word _ (Mon.at_mem hUk)
          have hka := Mon.keys_at hUk
          have hnA : (rsA.getD k undef).ownBlock ≠ none := by
            have h := hA.row k (by rw [Mon.keys_len]; exact hUk)
            rw [hka, hkey.1] at h
            obtain ⟨g, cc, e, _⟩ := own_some h hn1
            rw [e]; simp [Value.ownBlock]
          obtain ⟨rg, rc, e1, e2⟩ := own_row_at hA (by rw [Mon.keys_len]; exact hUk) hnA
          rw [hka, hkey.1] at e1 e2
          obtain ⟨ro1, ro2, ro3, sb, so, sc, hv, g1, g2⟩ := rows_atI H1.out hltx (HG.out.row hltx) hn1
          injection hv with hv1 hv2 hv3
          subst hv1 hv3
          replace g1 := below_cell hbw g1
          have i1 := idx_of Try.underlying22 size1_ints (ao := some ⟨ag2, 0, none⟩) (b := ag2) (o := 0) (n := U.length) (c := ac2) (fun _ => rfl) hUk .i64
          have i2 := idx_of Try.underlying22 size1_ints (ao := some ⟨ro1, ro2, none⟩) (b := ro1) (o := ro2) (n := xss.length) (c := c) (fun _ => rfl) hltx .i64
          rw [Nat.zero_add] at i1
          have hstep : stepM xss k U x = if actBy (xss.getD x []) (T.at k).1 ∈ U.keys then U else U ++ [(actBy (xss.getD x []) (T.at k).1, (T.at k).2 ++ [(x : Int)])] := by unfold stepM; rw [hatx]
          have hag := actBy_good HG.out hltx hkey
          have HVAL := Lib.hid (fun s (hs : s < n) => HG.out.val hltx hs)
          rw [hatx] at e2 hkey hag hwl
          obtain ⟨ak, hak⟩ : ∃ ak, ak = (T.at k).1 := ⟨_, rfl⟩
          rw [← hak] at e2 hkey hag hstep
          have HSNOC := Lib.hid (fun s (h : s < ak.length) => actBy_snocI (row := xss.getD x []) h)
          obtain ⟨row, hrow⟩ : ∃ row, row = xss.getD x [] := ⟨_, rfl⟩
          rw [← hrow] at g2 hag hstep HVAL HSNOC
          obtain ⟨zs, hzs⟩ : ∃ zs, zs = (T.at k).2 := ⟨_, rfl⟩
          rw [← hzs] at hstep hwl
          obtain ⟨y, hy⟩ : ∃ y, y = actBy row ak := ⟨_, rfl⟩
          rw [← hy] at hag hstep HSNOC
          have HE2 := Lib.hid (fun j (hj : j < n) => e2 j hj)
          have HG2 := Lib.hid (fun j (hj : j < n) => below_cell hbw (g2 j hj))
          have hkr : Hid (∀ z ∈ ak, 0 ≤ z ∧ z < (n : Int)) := hkey.2
          have hkl : ak.length = n := hkey.1
          have HSTP := Lib.hid hstep
          have HATX := Lib.hid hatx
          have HZS := Lib.hid hzs
          have HYL := Lib.hid hag
          have HEM := Lib.hid (own_empty wo wo.heap.size (Nat.le_refl _) 2)
          have hbe : Below wo.heap.size wo (wo.alloc (.cells #[] 2)) := below_alloc (Below.refl _ _) _
          have hA2 := hA
          rw [Mon.keys_len] at hA2
          have HHA := Lib.hid hA2
          have HLN : Hid (ak.length = n) := hkl
          clear hA hA2 hW hnn hap hkn hnA hka hgx e2 g2 hkey hag hstep hak hrow hzs hy hatx hv2 hkl hTx
          have le1 := block_lt_of_cell e1
          have lg1 := block_lt_of_cell g1
          go_wp2
          go_loopw [11, 46] (fun u i wr => ∃ s : Nat, s ≤ n ∧ i = .int .i64 s ∧ Hid (wr.ownsRow wo.heap.size 2 1 u s ((y.take s).map (Value.int .i64))) ∧ Below wo.heap.size wo wr) (fun _ i _ => n - (intOf i).toNat)
          case atStart => exact ⟨0, Nat.zero_le _, rfl, HEM.out, hbe⟩
          case round =>
            obtain ⟨s, hs, rfl, HO, hb⟩ := hrel
            by_cases hlts : s < n
            · have hz := hkr.out _ (show ak.getD s 0 ∈ ak from mem_getD (by rw [HLN.out]; exact hlts))
              obtain ⟨z, hzz⟩ : ∃ z : Nat, ak.getD s 0 = z := ⟨(ak.getD s 0).toNat, by omega⟩
              have hzn : z < n := by omega
              have e3 := below_cell hb (HE2.out s hlts)
              rw [hzz] at e3
              have g3 := below_cell hb (HG2.out z hzn)
              have hsn := HSNOC.out s (by rw [HLN.out]; exact hlts)
              rw [hzz, show (z : Int).toNat = z by omega] at hsn
              obtain ⟨yz, hyz⟩ : ∃ yz, yz = row.getD z 0 := ⟨_, rfl⟩
              rw [← hyz] at g3 hsn
              have HSN := Lib.hid hsn
              have j1 := idx_of Try.underlying55 size1_int (ao := some ⟨rg, 0, none⟩) (b := rg) (o := 0) (n := n) (c := rc) (fun _ => rfl) hlts .i64
              have j2 := idx_of Try.underlying55 size1_int (ao := some ⟨sb, so, none⟩) (b := sb) (o := so) (n := n) (c := sc) (fun _ => rfl) hzn .i64
              rw [Nat.zero_add] at j1
              clear hz hzz hyz hsn
              go_wp2_with (at_builtin; refine wpList_push elem_int rfl (.tmp 50) (.tmp 55) rfl wo.heap.size rfl HO.out _ rfl rfl (by unfold maxLen; omega) (by omega) hb.size ?_; intro v' w8 hown' hgr hs8)
              have hb6 : Below wo.heap.size wo w8 := Below.grown hb hgr hb.size (fun g hg => (own_block HO.out hg).1)
              rw [HSN.out] at hown'
              have HOW := Lib.hid hown'
              clear hown' hgr hs8
              go_wp2
              go_roundw
              case rel => exact ⟨s + 1, by omega, by go_num, HOW.out, hb6⟩
              case measure => simp [intOf]; omega
            · obtain rfl : s = n := by omega
              have ho := HO.out
              rw [List.take_of_length_le (by rw [HYL.out.1]; exact Nat.le_refl _)] at ho
              obtain ⟨yg, yc, rfl, _⟩ := own_some ho hn1
              have HOY := Lib.hid ho
              have HX3 := Lib.hid (HX.out.next hb)
              have HHA3 := Lib.hid (HHA.out.below hb)
              have HAPN : Hid (∀ i, i < U.keys.length → (rsA.getD i undef).ownBlock = none ∨ (rsA.getD i undef).ownBlock ≠ Value.ownBlock (.slice (some ⟨yg, 0, none⟩) s yc)) := HHA.out.apart_new ho
              have hiy : Ints wr (.slice (some ⟨yg, 0, none⟩) s yc) y := ints_of_own ho
              have HK3 := Lib.hid (HKEY.out _ y wr hiy HYL.out)
              have hks := key_str (keyB y) (by simp [keyB]; rw [HYL.out.1]; omega)
              have HKS := Lib.hid hks
              have hwos := hb.size
              clear ho hiy hks
              go_wp2_with fail
              refine HK3.out.mono ?_
              rintro e w5 ⟨rfl, hb5⟩
              have HX5 := Lib.hid (HX3.out.next hb5)
              obtain ⟨F, hmp, hF⟩ := HX5.out.map
              have hlook := hmp.look str_law Try.underlying123 (zero_bool w5) HKS.out
              rw [hF y HYL.out] at hlook
              by_cases hin : y ∈ U.keys
              · rw [if_pos hin] at hlook
                have hst2 := HSTP.out
                rw [if_pos hin] at hst2
                rw [hst2] at HSTX
                change _ = Result.ok (Value.bool true) w5 at hlook
                clear hin hst2 hmp hF hb5
                go_wp2
                go_roundw
                case rel => exact ⟨x + 1, by omega, by go_num, by rw [HSTX.out]; exact HX5.out⟩
                case measure => simp [intOf]; omega
              · rw [if_neg hin] at hlook
                have hst2 := HSTP.out
                rw [if_neg hin] at hst2
                rw [hst2] at HSTX
                change _ = Result.ok (Value.bool false) w5 at hlook
                have HHA5 := Lib.hid (HHA3.out.below hb5)
                have HOY5 := Lib.hid (own_below HOY.out hb5)
                have HF := Lib.hid hF
                have HMP := Lib.hid hmp
                have hmbl := hmbl
                have hw5s := hb5.size
                clear hin hst2 hF hmp hb5
                go_wp2_with fail
                refine upon_put HMP.out str_law Try.underlying123 (by rw [Mon.keys_len]; unfold maxLen; omega) HKS.out ?_
                intro w6 hm6 hg6
                have hM6 := HX5.out.mid.putMap hg6 hmbl (fun ho => HMP.out.ne_own ho)
                have hK6 : Known w6 mb s (U.keys ++ [y]) := Known.put hn10 HF.out HYL.out hm6
                have hA6 := HHA5.out.mapKept hg6 (fun ho => HMP.out.ne_own ho)
                have hY6 := own_mapKept HOY5.out hg6 (HMP.out.ne_own HOY5.out)
                have hap6 := hM6.apart
                have hlo6 := hM6.low
                obtain ⟨rw6, hw6, hnn6⟩ := hM6.words
                have hwl2 : (U.map Prod.snd).length = U.length := by simp
                have hkz : k < (U.map Prod.snd).length := by rw [List.length_map]; exact hUk
                rw [← hwl2] at hw6
                obtain ⟨kg, kc, e6, e8⟩ := own_row_at hw6 hkz (hnn6 k hkz)
                rw [Mon.words_at hUk, HATX.out] at e6 e8
                rw [← HZS.out] at e6 e8
                rw [hwl2] at hw6
                have hou6 := hA6.outer
                rw [Mon.keys_len] at hou6
                have HA6 := Lib.hid hA6
                have HW6 := Lib.hid hw6
                have HNN6 := Lib.hid hnn6
                have HM6 := Lib.hid hM6
                have HK6 := Lib.hid hK6
                have HY6 := Lib.hid hY6
                have HOU6 := Lib.hid hou6
                have HAP6 := Lib.hid hap6
                have hwg6 : wg2 < w6.heap.size := block_lt_of_cell e6
                have hag6 : ag2 < w6.heap.size := (own_block (g := ag2) hou6 rfl).2
                have HNE6 : Hid (wg2 ≠ ag2) := by
                  intro e
                  rcases hap6 with h | h
                  · cases h
                  · exact h (by simp [Value.ownBlock, e])
                have i7 := idx_of Try.underlying22 size1_ints (ao := some ⟨wg2, 0, none⟩) (b := wg2) (o := 0) (n := U.length) (c := wc2) (fun _ => rfl) hUk .i64
                rw [Nat.zero_add] at i7
                have HZK : Hid ((U.map Prod.snd).getD k [] = zs) := by unfold Hid; rw [Mon.words_at hUk, HATX.out, ← HZS.out]
                have HRWK : Hid (rw6.getD k undef = .slice (some ⟨kg, 0, none⟩) zs.length kc) := by
                  have h := hw6.outer
                  rw [hwl2] at h
                  have h2 := h.cellAt k (by omega)
                  rw [e6] at h2
                  unfold Hid
                  rw [List.getD_eq_getElem?_getD, ← h2]
                  rfl
                have HIN6 : Hid (Ints w6 (.slice (some ⟨kg, 0, none⟩) zs.length kc) zs) := IntsAt.shut ⟨rfl, fun _ => rfl, fun j hj => by rw [Nat.zero_add]; exact e8 j hj, by omega⟩
                have HCL := Lib.hid (fun W (hi : Ints W (.slice (some ⟨kg, 0, none⟩) zs.length kc) zs) => cloneInts_any _ zs W hi (by omega))
                clear hm6 hg6 hM6 hK6 hA6 hY6 hap6 hw6 hnn6 hou6 e8 hwl2 HX5 HMP HF HHA5 HOY5 hlook HX3 HHA3 HOY HK3
                have hne0 : w6.heap.size ≠ ag2 := by omega
                have hne1 : w6.heap.size + 1 ≠ ag2 := by omega
                clear HRD HSTOP HMANY HGT HT HI HEND HLN hkr HE2 HG2 HVAL HSNOC HEM HO HX hbe HHA e1 g1 i1 i2 le1 lg1 HKS hb
                go_wp2
                go_region_law (first
                  | (refine step_appSM elem_ints rfl (.tmp 66) (.tmp 68) rfl X1.heap.size rfl (by first | exact own_drew (HOU6.out.alloc _) | exact own_drew ((HOU6.out.alloc _).alloc _)) _ (.slice (some ⟨yg, 0, none⟩) s yc) rfl (by go_simp) rfl (by unfold maxLen; omega) (by omega) (by first | (simp; done) | (simp; omega)) ?_; intro v7 w7 ho7 hg7 hs7; have hg7' : w6.grownBy w7 (Value.ownBlock (.slice (some ⟨ag2, 0, none⟩) U.length ac2)) := (by first | exact grown_of_alloc (grown_of_drew hg7) | exact grown_of_alloc (grown_of_alloc (grown_of_drew hg7))); have hs7' := same_mono hs7 (show w6.heap.size ≤ _ by first | (simp; done) | (simp; omega)); have HX7 := Lib.hid (HM6.out.pushAct (ys := y) HA6.out (by rw [HYL.out.1]; exact HY6.out) (by omega) HAPN.out hg7' (by rw [Mon.keys_len]; exact ho7) hs7'); have HW7 := Lib.hid (HW6.out.keepAll hg7' (apart_symm HAP6.out) (fun k hk => own_ne (HW6.out.row k hk) HA6.out.outer (by decide))); have e7 : w7.cell? ⟨wg2, k, none⟩ = some (.slice (some ⟨kg, 0, none⟩) zs.length kc) := (World.cell?_of_block (a := ⟨wg2, k, none⟩) (hg7'.block wg2 hwg6 (fun e => HNE6.out (by injection e)))).trans e6; have hwg7 : wg2 < w7.heap.size := block_lt_of_cell e7; have HK7 := Lib.hid (HK6.out.kept HOU6.out hg7');  have HIN7 : Hid (Ints w7 (.slice (some ⟨kg, 0, none⟩) zs.length kc) zs) := (by have h9 := ints_of_own (HW7.out.row k hkz); rw [HRWK.out, HZK.out] at h9; exact h9); have hs67 : w6.heap.size ≤ w7.heap.size := hg7'.size; have hsz7 := hg7.size; (try simp at hsz7); (try have hA1 : w6.heap.size + 1 < w7.heap.size := (by omega)); have hA0 : w6.heap.size < w7.heap.size := (by omega); (try have x71 : w7.cell? ⟨w6.heap.size + 1, 0, none⟩ = some (.int .i64 x) := (World.cell?_of_block (a := ⟨w6.heap.size + 1, 0, none⟩) (hg7.block (w6.heap.size + 1) (by first | (simp; done) | (simp; omega)) (fun e => hne1 (by injection e)))).trans (by first | (go_simp; done) | (fail "no"))); (try have x70 : w7.cell? ⟨w6.heap.size, 0, none⟩ = some (.int .i64 x) := (World.cell?_of_block (a := ⟨w6.heap.size, 0, none⟩) (hg7.block w6.heap.size (by first | (simp; done) | (simp; omega)) (fun e => hne0 (by injection e)))).trans (by first | (go_simp; done) | (fail "no"))); obtain ⟨a7, m7, c7, rfl, HM7⟩ := own_shape ho7; clear ho7 hg7 hs7 hg7' hs7')
                  | (go_simp; go_at_call 64; (with_reducible refine (HCL.out _ (by first | exact HIN7.out | exact HIN7.out.kept (below_alloc (Below.refl _ _) _))).mono ?_); rintro e w8 ⟨v8, rfl, ho8, hb8⟩; have hb8' : Below w7.heap.size w7 w8 := (by first | exact hb8 | exact below_trans (below_alloc (Below.refl _ _) _) hb8); have HO8 : Hid (w8.ownsRow w7.heap.size 2 1 v8 zs.length (zs.map (Value.int .i64))) := (own_lo ho8 (by first | exact Nat.le_refl _ | (simp; done))); have HB8 := Lib.hid hb8'; obtain ⟨hc8, hf8⟩ := bcell hb8; have HK8 := Lib.hid (HK7.out.below hb8'); have hs78 : w7.heap.size ≤ w8.heap.size := hb8'.size; obtain ⟨a8, m8, c8, rfl, HM8⟩ := own_shape ho8; clear ho8 hb8')
                  | (refine step_appSM elem_int rfl (.tmp 75) (.tmp 77) rfl w7.heap.size rfl (by first | exact HO8.out | exact HO8.out.alloc _) _ (.int .i64 x) rfl (by go_simp) rfl (by unfold maxLen; omega) (by omega) (by first | exact hs78 | (simp; omega)) ?_; intro v9 w9 ho9 hg9 hs9; have hg9' : w8.grownBy w9 (Value.ownBlock (.slice a8 m8 c8)) := (by first | exact hg9 | exact grown_of_alloc hg9); have HO9 := Lib.hid ho9; have HG9 := Lib.hid hg9'; have hout9 := MMid.outer7 HW7.out HB8.out HO8.out hg9'; rw [List.length_map] at hout9; have HOUT9 := Lib.hid hout9; have HK9 := Lib.hid (HK8.out.kept HO8.out hg9'); have hs89 : w8.heap.size ≤ w9.heap.size := hg9'.size; obtain ⟨a9, m9, c9, rfl, HM9⟩ := own_shape ho9; clear ho9 hg9 hs9 hg9' hout9)
                  | (refine step_appSM elem_ints rfl (.tmp 70) (.tmp 79) rfl X1.heap.size rfl (HOUT9.out.alloc _) _ (.slice a9 m9 c9) rfl (by go_simp) rfl (by unfold maxLen; omega) (by omega) (by first | (simp; done) | (simp; omega)) ?_; intro v10 w10 ho10 hg10 hs10; have hg10' : w9.grownBy w10 _ := grown_of_alloc hg10; have hs10' := same_mono hs10 (show w9.heap.size ≤ _ by first | (simp; done) | (simp; omega)); have HX10 := Lib.hid (HX7.out.pushWord HW7.out HNN6.out HB8.out HO8.out HG9.out HO9.out hg10' (by rw [List.length_map]; exact ho10) hs10'); have HK10 := Lib.hid (HK9.out.kept HOUT9.out hg10'); obtain ⟨a10, m10, c10, rfl, HM10⟩ := own_shape ho10; clear ho10 hg10 hs10 hg10' hs10'))
                all_goals
                  have HFin : Hid (MI X1 w10 X1.heap.size mb s (.slice a7 m7 c7) (.slice a10 m10 c10) (innerM xss k T (x + 1))) := by
                    rw [HSTX.out]
                    have ek : Mon.keys (U ++ [(y, zs ++ [(x : Int)])]) = U.keys ++ [y] := by simp [Mon.keys]
                    refine ⟨?_, ?_⟩
                    · rw [ek, List.map_append]
                      exact HX10.out
                    · rw [ek]
                      exact HK10.out
                  clear HX10 HX7 HW7 HK7 HK8 HK9 HK10 HO8 HO9 HG9 HOUT9 HB8
                  go_wp2
                  go_roundw
                  case rel => exact ⟨x + 1, by omega, by go_num, HFin.out⟩
                  case measure => simp [intOf]; omega
        · obtain rfl : x = xss.length := by omega
          have hr := HRD.out hlt
          rw [← HEND.out rfl] at hr
          have HR := Lib.hid hr
          clear hr hA hW hnn hap hkn
          by_cases hbig : 400 < U.length
          · have hno := HMANY.out hlt h400 (by rw [HR.out]; exact hbig)
            have hdn : Hid (decide (M.length ≤ 400) = false) := decide_eq_false hno
            have HNO := Lib.hid hno
            clear hno
            have hbww := bx.trans (hbw.mono bx.size)
            go_wp2
            go_ret3
            exact ⟨_, _, (by first | (rw [hdn.out]; done) | (rw [hdn.out]; rfl)), fun h => absurd h HNO.out, hbww⟩
          · go_wp2
            go_roundw
            case rel => exact ⟨k + 1, by rw [HR.out]; omega, by rw [HR.out]; omega, by go_num, by rw [HR.out]; exact HX.out⟩
            case measure => simp [intOf]; omega
    · have hstop := HSTOP.out (by omega) (by omega)
      have hl : M.length ≤ 400 := by rw [← hstop]; exact h400
      have hdn : Hid (decide (M.length ≤ 400) = true) := decide_eq_true hl
      have HIF : Hid (MI X1 wr X1.heap.size mb n (.slice (some ⟨ag, 0, none⟩) T.length ac) (.slice (some ⟨wg, 0, none⟩) T.length wc) M) := by
        rw [← hstop]
        exact HI.out
      have hbww := bx.trans (hbw.mono bx.size)
      clear hstop hl
      go_wp2
      go_ret3
      exact ⟨_, _, (by first | (rw [hdn.out]; done) | (rw [hdn.out]; rfl)), fun _ => by obtain ⟨rs, h⟩ := HIF.out.mid.acts; exact ⟨rs, h.mono (by omega)⟩, hbww⟩

end Go.Proofs.Ytocdkeidjocmkaa
