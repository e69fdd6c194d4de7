/- l05Arrange of the reference. -/
import Derived.Test.YtlgnbbfhejjodaaArrAt
import Derived.Test.YtlgnbbfhejjodaaBits
namespace Go.Proofs.Ytlgnbbfhejjodaa
set_option linter.unusedVariables false
set_option linter.unusedSimpArgs false
open Go.ChangeShapes Go.WideShapes Go.ChangeAt Go.RowKit

theorem own_shape_some {w : World} {lo : Nat} {e : TypeId} {s n : Nat} {v : Value} {xs : List Value} (h : w.ownsRow lo e s v n xs) (hb : v.ownBlock ≠ none) : ∃ g cap, v = .slice (some ⟨g, 0, none⟩) n cap := by
  rcases h.2 with ⟨rfl, _⟩ | ⟨g, cap, cur, rfl, _⟩
  · exact absurd rfl hb
  · exact ⟨g, cap, rfl⟩
theorem son_some {g n cap B : Nat} {v' : Value} (h : SameOrNew (.slice (some ⟨g, 0, none⟩) n cap) v' B) : v'.ownBlock ≠ none := by
  rcases h with h | ⟨k, h, _⟩ <;> rw [h] <;> simp [Value.ownBlock]

/-- append of m elements, m may be none, as a step of a region that draws -/
theorem step_appM {P : Program} {t e : TypeId} {z : Value} {bytes : Nat} (E : Elem P t e z bytes) {w : World} {ops : Array Oper} {o : Oper} {a : Act} {K : Act → World → Prop} {Q : Exit → Act → World → Prop} {F : Prop} (hgd : o.guard = none) (s x : Operand)
    (ho : o.op = .call { callee := .builtin .append, args := #[s, x], argTypes := #[t, t] })
    (lo : Nat) {g0 n cap0 : Nat} {xs : List Value} (hs : a.eval s = .slice (some ⟨g0, 0, none⟩) n cap0) (hown : w.ownsRow lo e 1 (.slice (some ⟨g0, 0, none⟩) n cap0) n xs) (ad : Addr) (m c : Nat) (news : List Value) (hx : a.eval x = .slice (some ad) m c)
    (hl : news.length = m) (hc : ∀ j u, news[j]? = some u → w.cell? (ad.add j) = some u) (hu : ∀ u ∈ news, u.oneCell' = true)
    (h63 : n + m ≤ maxLen) (hbytes : (n + m) * bytes ≤ 140737488355328) (hlo : lo ≤ w.heap.size)
    (h : ∀ g cap w', w'.ownsRow lo e 1 (.slice (some ⟨g, 0, none⟩) (n + m) cap) (n + m) (xs ++ news) → w.grownBy w' (some g0) → (g = g0 ∨ w.heap.size ≤ g) → K (a.put o.dst (.slice (some ⟨g, 0, none⟩) (n + m) cap)) w') :
    if Region.wanted o (yielded ops a.tmps) = true then Oper.wp P o a w K Q else F := by
  obtain ⟨i, hi, hz, hsz, hby⟩ := info_parts E.info
  by_cases hm : m = 0
  · subst hm
    obtain rfl : news = [] := List.eq_nil_of_length_eq_zero hl
    have hnc : n ≤ cap0 := by
      rcases hown.2 with ⟨h0, _⟩ | ⟨g, cap, cur, hv, _, _, hnc, _⟩
      · cases h0
      · injection hv with _ _ e3; omega
    refine step_append_room hgd s x t ho e i 1 E.slice hi hsz g0 0 n cap0 hs ad 0 c [] hx rfl (by simp) (by simp) (by omega) (by simp) ?_
    rw [List.append_nil] at h
    exact h g0 cap0 w hown ⟨rfl, rfl, rfl, Nat.le_refl _, fun _ _ _ => rfl⟩ (.inl rfl)
  · refine step_append_lies _ hgd s x t ho lo e i z 1 bytes E.slice hi hz hsz hby E.one (by decide) _ n xs hs hown ad m c news hx (by omega) hc hu (by omega) h63 hbytes hlo w.heap.size rfl ?_
    intro g cap w1 h1 h2 h3 h4
    exact h g cap w1 h1 h2 (h3.elim (fun h3 => .inl (by simpa [Value.ownBlock] using h3.symm)) (fun h3 => .inr (by omega)))

/-- new numbers, never nil -/
def NewIntsN (zs : List Int) (w : World) (e : Ending) (w' : World) : Prop :=
  ∃ g cap, e = .returned (.slice (some ⟨g, 0, none⟩) zs.length cap) ∧ w'.ownsRow w.heap.size 2 1 (.slice (some ⟨g, 0, none⟩) zs.length cap) zs.length (zs.map (Value.int .i64)) ∧ Below w.heap.size w w'
/-- new rows, no row nil -/
def NewRowsN (zss : List (List Int)) (w : World) (e : Ending) (w' : World) : Prop :=
  ∃ v rs, e = .returned v ∧ OwnRows w' w.heap.size v rs zss ∧ Below w.heap.size w w' ∧ ∀ k, k < zss.length → (rs.getD k undef).ownBlock ≠ none

theorem l00Own_at (b o c : Nat) (xs : List Int) (w : World) (hc : ∀ k, k < xs.length → w.cell? ⟨b, o + k, none⟩ = some (.int .i64 (xs.getD k 0))) (hl : xs.length ≤ 1048576) : Calls Try.prog 137 #[.slice (some ⟨b, o, none⟩) xs.length c] w (NewIntsN xs w) := by
  have HE := Lib.hid (own_empty w w.heap.size (Nat.le_refl _) 2)
  have HC : Hid (∀ j u, (xs.map (Value.int .i64))[j]? = some u → w.cell? ((⟨b, o, none⟩ : Addr).add j) = some u) := by
    intro j u hj
    have hjl : j < xs.length := by have := (List.getElem?_eq_some_iff.1 hj).1; simpa using this
    rw [add_plain', hc j hjl]
    simp [List.getD_eq_getElem?_getD, hjl] at hj ⊢
    exact hj
  clear hc
  go_enter Try.func137, Try.ntmps137
  go_wp2_with (at_builtin; refine wpList_appendE elem_int rfl (.tmp 3) (.tmp 4) rfl w.heap.size rfl HE.out ⟨b, o, none⟩ xs.length c (xs.map (Value.int .i64)) rfl (by simp) (fun j u hj => Lib.cell?_alloc_some _ (HC.out j u hj)) (fun u hu => by obtain ⟨x, _, rfl⟩ := List.mem_map.1 hu; rfl) (by unfold maxLen; omega) (by omega) (by simp) ?_; intro v' w1 hown hgr hs)
  obtain ⟨g, cap, rfl⟩ := own_shape_some hown (son_some hs)
  go_wp2
  go_ret
  refine ⟨g, cap, by simp, by simpa using hown, ?_⟩
  exact (below_alloc (Below.refl _ w) _).grown hgr (by simp) (fun g hg => (own_block HE.out hg).1)

/-- .. whose room is known -/
def IntsC (w : World) (v : Value) (zs : List Int) : Prop := Ints w v zs ∧ ∃ ao c, v = .slice ao zs.length c ∧ zs.length ≤ c
theorem intsC_own {w : World} {lo : Nat} {v : Value} {zs : List Int} (h : w.ownsRow lo 2 1 v zs.length (zs.map (Value.int .i64))) : IntsC w v zs := by
  refine ⟨ints_of_own h, ?_⟩
  rcases h.2 with ⟨rfl, h0⟩ | ⟨g, cap, cur, rfl, _, _, hnc, _⟩
  · exact ⟨none, 0, by rw [h0], by omega⟩
  · exact ⟨_, cap, rfl, hnc⟩
def RowsC (w : World) (v : Value) (zss : List (List Int)) : Prop := ∃ rs : List Value, Sl w v rs ∧ rs.length = zss.length ∧ ∀ k, k < zss.length → IntsC w (rs.getD k undef) (zss.getD k [])
theorem RowsC.rows {w : World} {v : Value} {zss : List (List Int)} (h : RowsC w v zss) : Rows2 w v zss := by
  obtain ⟨rs, h1, h2, h3⟩ := h
  exact ⟨rs, h1, h2, fun k hk => (h3 k hk).1⟩
theorem RowsC.kept {w w' : World} {v : Value} {zss : List (List Int)} (h : RowsC w v zss) (hb : Below w.heap.size w w') : RowsC w' v zss := by
  obtain ⟨rs, h1, h2, h3⟩ := h
  exact ⟨rs, h1.kept hb, h2, fun k hk => ⟨(h3 k hk).1.kept hb, (h3 k hk).2⟩⟩
theorem OwnRows.readsC {w : World} {lo : Nat} {v : Value} {rs : List Value} {zss : List (List Int)} (h : OwnRows w lo v rs zss) : RowsC w v zss :=
  ⟨rs, sl_of_own h.outer, h.len, fun k hk => intsC_own (h.row k hk)⟩

def ArranIs (n : Nat) : Prop := ∀ (zs : List Int) (v : Value) (w : World), zs.length = n → n ≤ 3 → IntsC w v zs → Calls Try.prog 118 #[v] w (NewRowsN (arr n zs) w)

theorem arran_zero : ArranIs 0 := by
  intro zs v w hl _ h1
  obtain rfl : zs = [] := List.eq_nil_of_length_eq_zero hl
  obtain ⟨ao, m, c, rfl, HM⟩ := h1.1.shape
  obtain rfl : m = 0 := HM.out
  clear h1 HM
  have HE := Lib.hid (own_empty w w.heap.size (Nat.le_refl _) 2)
  have HL := Lib.hid (World.ownsRow_lit (base := w.heap.size) (size := 1) (e := 32) (w.alloc (.cells #[] 2)) #[.slice (some ⟨w.heap.size, 0, none⟩) 0 0] 1 (by simp) (by unfold maxLen; omega) (by simp))
  go_enter Try.func118, Try.ntmps118
  go_wp2
  go_ret
  refine ⟨_, [.slice (some ⟨w.heap.size, 0, none⟩) 0 0], rfl, ⟨by simpa [arr] using HL.out, fun k hk => ?_, fun i j hij hj => ?_⟩, below_alloc (below_alloc (Below.refl _ _) _) _, fun k hk => ?_⟩
  · obtain rfl : k = 0 := by simp [arr] at hk; exact hk
    simpa [arr] using HE.out.alloc (.cells #[.slice (some ⟨w.heap.size, 0, none⟩) 0 0] 32)
  · simp [arr] at hj; omega
  · obtain rfl : k = 0 := by simp [arr] at hk; exact hk
    simp [Value.ownBlock]

theorem grown_sn {W w w' : World} {g0 g : Option Nat} (h : W.grownBy w g0) (h2 : w.grownBy w' g) (hs : SN g0 g W.heap.size) : W.grownBy w' g0 :=
  ⟨h2.os.trans h.os, h2.tape.trans h.tape, h2.output.trans h.output, Nat.le_trans h.size h2.size, fun k hk hne => (h2.block k (Nat.lt_of_lt_of_le hk h.size) (hs.ne hk hne)).trans (h.block k hk hne)⟩
theorem grown_below {w w' : World} {g : Option Nat} (h : Below w.heap.size w w') : w.grownBy w' g := ⟨h.os, h.tape, h.output, h.size, fun k hk _ => h.block k hk⟩
theorem lit_grown {wr W w2 : World} {c} {g0 : Nat} (hb : Below wr.heap.size wr W) (hg : (W.alloc c).grownBy w2 (some g0)) (h0 : wr.heap.size ≤ g0) : Below wr.heap.size wr w2 :=
  (below_alloc hb c).grown hg (by have := hb.size; simp; omega) (fun g hg => by cases hg; exact h0)

/-- from the world W on: rows of which none is nil, the outer slice at g0's block or a new one -/
structure AInv (W w : World) (lo : Nat) (g0 : Option Nat) (u : Value) (zss : List (List Int)) : Prop where
  rows : ∃ rs, OwnRows w lo u rs zss ∧ ∀ k, k < zss.length → (rs.getD k undef).ownBlock ≠ none
  gr : W.grownBy w g0
  sn : SN g0 u.ownBlock W.heap.size
theorem AInv.give {W w w2 w3 : World} {lo : Nat} {g0 : Option Nat} {u u3 r : Value} {zss : List (List Int)} {ys : List Int} {rs : List Value} (h : AInv W w lo g0 u zss) (hlo : lo ≤ w.heap.size) (hrs : OwnRows w lo u rs zss) (hnn : ∀ k, k < zss.length → (rs.getD k undef).ownBlock ≠ none) (hb : Below w.heap.size w w2)
    (hr : w2.ownsRow w.heap.size 2 1 r ys.length (ys.map (Value.int .i64))) (hrn : r.ownBlock ≠ none) (ho : w3.ownsRow lo 32 1 u3 (zss.length + 1) (rs ++ [r])) (hg : w2.grownBy w3 u.ownBlock) (hs : SameOrNew u u3 w2.heap.size) : AInv W w3 lo g0 u3 (zss ++ [ys]) := by
  have h2 := (hrs.below hb).append hg ho (own_lo hr hlo) (fun i hi => apart_symm (apart_newer (hrs.row i hi) hr (Nat.le_refl _)))
  refine ⟨⟨_, h2, fun k hk => ?_⟩, ?_, h.sn.trans (SN.of hs) (Nat.le_trans h.gr.size hb.size)⟩
  · rw [List.length_append, List.length_singleton] at hk
    have hlen := hrs.len
    by_cases hin : k < zss.length
    · rw [show (rs ++ [r]).getD k undef = rs.getD k undef by simp [List.getD_eq_getElem?_getD, List.getElem?_append, hlen, hin]]
      exact hnn k hin
    · obtain rfl : k = zss.length := by omega
      rw [show (rs ++ [r]).getD zss.length undef = r by simp [List.getD_eq_getElem?_getD, hlen]]
      exact hrn
  · exact grown_sn h.gr (grown_sn (grown_below hb) hg (SN.refl _ _)) h.sn
theorem cons_take {M : List (List Int)} {z : Int} {j : Nat} (h : j < M.length) : (M.take (j + 1)).map (z :: ·) = (M.take j).map (z :: ·) ++ [z :: M.getD j []] := by
  rw [List.take_succ_eq_append_getElem h, List.map_append]
  simp [List.getD_eq_getElem?_getD, h]

/-- the rest of a list from a place on, as the operation gives it -/
theorem slice_from {P : Program} {t e : TypeId} (ht : P.underlying t = some (.slice e)) (hs : ∀ w, (sizeOf e).run P w = .ok 1 w) (b o n c k : Nat) (hk : k ≤ n) (hn : n ≤ c) :
    ∃ ad : Addr, (∀ w, (Instr.slice t (.slice (some ⟨b, o, none⟩) n c) (some (.int .i64 (k : Int))) none none).run P w = .ok (.slice (some ad) (n - k) (c - k)) w) ∧ (k < n → ad = ⟨b, o + k, none⟩) := by
  have he : P.elem t = e := by simp [Program.elem, ht]
  refine ⟨if c = k then ⟨b, o, none⟩ else ⟨b, o + k, none⟩, fun w => ?_, fun h => if_neg (by omega)⟩
  rw [run_slice_l (P := P) (w := w) t _ n c (by rw [he]; exact ht) .i64 k (by omega) (by omega), he, hs]
  simp only [Result.andThen, sliced, Int.toNat_natCast]
  split
  · rename_i h; simp [h]
  · rename_i h; simp [Addr.add_lit]
theorem slice_to {P : Program} {t e : TypeId} (ht : P.underlying t = some (.slice e)) (hs : ∀ w, (sizeOf e).run P w = .ok 1 w) (b o n c k : Nat) (hk : k ≤ n) (hn : n ≤ c) :
    ∀ w, (Instr.slice t (.slice (some ⟨b, o, none⟩) n c) none (some (.int .i64 (k : Int))) none).run P w = .ok (.slice (some ⟨b, o, none⟩) k c) w := by
  have he : P.elem t = e := by simp [Program.elem, ht]
  intro w
  rw [run_slice_h (P := P) (w := w) t _ n c (by rw [he]; exact ht) .i64 k (by omega) (by omega), he, hs]
  simp only [Result.andThen, sliced, Int.toNat_natCast]
  split <;> simp [Addr.add_lit]

theorem newsOwn {wr w : World} {lo g c : Nat} {row : List Int} (h : wr.ownsRow lo 2 1 (.slice (some ⟨g, 0, none⟩) row.length c) row.length (row.map (Value.int .i64))) (hb : Below wr.heap.size wr w) :
    ∀ j u, (row.map (Value.int .i64))[j]? = some u → w.cell? ((⟨g, 0, none⟩ : Addr).add j) = some u := by
  intro j u hj
  have hjl : j < row.length := by have := (List.getElem?_eq_some_iff.1 hj).1; simpa using this
  rw [add_plain', Nat.zero_add]
  exact below_cell hb ((h.cellAt j (by omega)).trans hj)
theorem newsRest {w : World} {b o k : Nat} {zs : List Int} {ad : Addr} (hc : ∀ j, j < zs.length → w.cell? ⟨b, o + j, none⟩ = some (.int .i64 (zs.getD j 0))) (ha : k + 1 < zs.length → ad = ⟨b, o + (k + 1), none⟩) :
    ∀ j u, ((zs.drop (k + 1)).map (Value.int .i64))[j]? = some u → w.cell? (ad.add j) = some u := by
  intro j u hj
  have hjl : j < zs.length - (k + 1) := by have := (List.getElem?_eq_some_iff.1 hj).1; simpa using this
  rw [ha (by omega), add_plain', show o + (k + 1) + j = o + (k + 1 + j) by omega, hc (k + 1 + j) (by omega)]
  have h2 : k + 1 + j < zs.length := by omega
  simp [List.getD_eq_getElem?_getD, h2] at hj ⊢
  exact hj

set_option maxRecDepth 100000 in
set_option maxHeartbeats 4000000 in
theorem arran_succ (n : Nat) (IH : ArranIs n) : ArranIs (n + 1) := by
  intro zs v w hzl hn3 h1
  obtain ⟨ao, b, o, c, H1⟩ := h1.1.open
  have hcap : zs.length ≤ c := by
    obtain ⟨a', c', hv, hc⟩ := h1.2
    have e := H1.val.symm.trans hv
    injection e with _ _ e3
    omega
  obtain rfl := H1.adr (by omega)
  have hv1 := H1.val
  subst hv1
  have hl3 : zs.length ≤ 3 := by omega
  have hl1 : 0 < zs.length := by omega
  have HCELL := Lib.hid (fun (j : Nat) (hj : j < zs.length) => H1.at hj)
  have HC0 := Lib.hid H1.cell
  have HZL := Lib.hid hzl
  have HIH := Lib.hid (fun ys u W hy (hi : IntsC W u ys) => IH ys u W hy (by omega) hi)
  have HALL : Hid (arr (n + 1) zs = arrTo n zs zs.length) := (arrTo_all n zs).symm
  have HE := Lib.hid (ownRows_empty w w.heap.size (Nat.le_refl _))
  have hbe : Below w.heap.size w (w.alloc (.cells #[] 32)) := below_alloc (Below.refl _ _) _
  have hne0 : ((zs.length : Int) == 0) = false := by rw [beq_eq_false_iff_ne]; omega
  have HLE := Lib.hid (fun k (hk : k ≤ zs.length) => arrTo_le (n := n) (l := zs) hzl hl3 hk)
  clear h1 H1 IH hzl
  go_enter Try.func118, Try.ntmps118
  go_wp2
  go_loopw [3, 4] (fun u i wr => ∃ k : Nat, k ≤ zs.length ∧ i = .int .i64 k ∧ Hid (∃ rs, OwnRows wr w.heap.size u rs (arrTo n zs k) ∧ ∀ j, j < (arrTo n zs k).length → (rs.getD j undef).ownBlock ≠ none) ∧ Below w.heap.size w wr) (fun _ i _ => zs.length - (intOf i).toNat)
  case atStart => exact ⟨0, Nat.zero_le _, rfl, ⟨[], HE.out, fun j hj => by simp [arrTo] at hj⟩, hbe⟩
  case round =>
    obtain ⟨k, hk, rfl, HT, hb⟩ := hrel
    obtain ⟨au, mu, cu, rfl, HMu⟩ : ∃ ao m c, _ = Value.slice ao m c ∧ Hid (m = (arrTo n zs k).length) := by
      obtain ⟨rs, ho, _⟩ := HT.out
      exact own_shape ho.outer
    by_cases hlt : k < zs.length
    · have i1 := idx_of Try.underlying32 size1_int (ao := some ⟨b, o, none⟩) (b := b) (o := o) (n := zs.length) (c := c) (fun _ => rfl) hlt .i64
      obtain ⟨z, hz, d⟩ := HCELL.out k hlt
      replace d := below_cell hb d
      have lb := block_lt_of_cell d
      have HZZ := Lib.hid hz
      clear hz
      by_cases hsk : 0 < k ∧ zs.getD k 0 = zs.getD (k - 1) 0
      · obtain ⟨j, hj⟩ : ∃ j, j + 1 = k := ⟨k - 1, by omega⟩
        have hjl : j < zs.length := by omega
        have i2 := idx_of Try.underlying32 size1_int (ao := some ⟨b, o, none⟩) (b := b) (o := o) (n := zs.length) (c := c) (fun _ => rfl) hjl .i64
        obtain ⟨y, hy, d2⟩ := HCELL.out j hjl
        replace d2 := below_cell hb d2
        have hsub : IntKind.i64.wrap ((k : Int) - 1) = (j : Int) := by rw [IntWalk.i64_in _ (by omega)]; omega
        have hkp : decide (0 < k) = true := by simp; omega
        have HSK : Hid (arrTo n zs (k + 1) = arrTo n zs k) := arrTo_skip hsk
        have hbe2 : (z == y) = true := by
          have h := hsk.2
          rw [HZZ.out, show k - 1 = j by omega, hy] at h
          simp [h]
        clear hy hj hsk hbe
        go_wp2
        go_quiet (fail)
        go_wp2
        go_roundw
        case rel => exact ⟨k + 1, by omega, by go_num, by rw [HSK.out]; obtain ⟨rs, ho, hnn⟩ := HT.out; exact ⟨rs, Qu.ownRows ⟨nq, rfl⟩ ho, hnn⟩, below_drewN' hb nq⟩
        case measure => simp [intOf]; omega
      · have hcase : (decide (0 < k) = false) ∨ ∃ (j : Nat) (y : Int), (∀ W, (Instr.indexAt 32 (.slice (some ⟨b, o, none⟩) zs.length c) (.int .i64 (j : Int))).run Try.prog W = .ok (.pointer (some ⟨b, o + j, none⟩)) W) ∧ wr.cell? ⟨b, o + j, none⟩ = some (.int .i64 y) ∧ IntKind.i64.wrap ((k : Int) - 1) = (j : Int) ∧ decide (0 < k) = true ∧ (z == y) = false := by
          by_cases h0 : k = 0
          · exact .inl (by simp; omega)
          · obtain ⟨j, hj⟩ : ∃ j, j + 1 = k := ⟨k - 1, by omega⟩
            have hjl : j < zs.length := by omega
            obtain ⟨y, hy, d2⟩ := HCELL.out j hjl
            refine .inr ⟨j, y, idx_of Try.underlying32 size1_int (ao := some ⟨b, o, none⟩) (b := b) (o := o) (n := zs.length) (c := c) (fun _ => rfl) hjl .i64, below_cell hb d2, by rw [IntWalk.i64_in _ (by omega)]; omega, by simp; omega, ?_⟩
            rw [beq_eq_false_iff_ne]
            intro e
            exact hsk ⟨by omega, by rw [HZZ.out, show k - 1 = j by omega, hy, e]⟩
        have hlz : (zs.eraseIdx k).length = n := by rw [List.length_eraseIdx, if_pos hlt]; have := HZL.out; omega
        have HLZ := Lib.hid hlz
        have HTK : Hid (arrTo n zs (k + 1) = arrTo n zs k ++ (arr n (zs.eraseIdx k)).map (z :: ·)) := by rw [← HZZ.out]; exact arrTo_take hsk
        have s1 := slice_to Try.underlying32 size1_int b o zs.length c k (by omega) hcap
        obtain ⟨ad, s2, had⟩ := slice_from Try.underlying32 size1_int b o zs.length c (k + 1) (by omega) hcap
        rw [show ((k + 1 : Nat) : Int) = (k : Int) + 1 by omega] at s2
        have hsum : IntKind.i64.wrap ((k : Int) + 1) = (k : Int) + 1 := IntWalk.i64_in _ (by omega)
        have HAD := Lib.hid had
        have HOWN : Hid (∀ W, Below w.heap.size w W → Calls Try.prog 137 #[.slice (some ⟨b, o, none⟩) k c] W (fun e w' => ∃ g cap, e = .returned (.slice (some ⟨g, 0, none⟩) k cap) ∧ w'.ownsRow W.heap.size 2 1 (.slice (some ⟨g, 0, none⟩) k cap) k ((zs.take k).map (Value.int .i64)) ∧ Below W.heap.size W w')) := by
          intro W hW
          have hlk : (zs.take k).length = k := by rw [List.length_take]; omega
          have C := l00Own_at b o c (zs.take k) W (fun j hj => by
            rw [hlk] at hj
            rw [below_cell hW (HC0.out j (by omega))]
            simp [List.getD_eq_getElem?_getD, List.getElem?_take, hj]) (by omega)
          unfold NewIntsN at C
          rw [hlk] at C
          exact C
        clear hsk had hlz
        rcases hcase with hk0 | ⟨j, y, i2, d2, hsub, hkp, hbe2⟩
        all_goals
          go_wp2
          go_quiet (fail)
          have hb5 := below_drewN' hb nq
          have hT5 : ∃ rs, OwnRows (wr.drewN nq) w.heap.size (.slice au mu cu) rs (arrTo n zs k) ∧ ∀ j, j < (arrTo n zs k).length → (rs.getD j undef).ownBlock ≠ none := by obtain ⟨rs, ho, hnn⟩ := HT.out; exact ⟨rs, Qu.ownRows ⟨nq, rfl⟩ ho, hnn⟩
          generalize wr.drewN nq = w5 at hb5 hT5 ⊢
          have HT5 := Lib.hid hT5
          clear hT5 HT hb d lb
          have hbw := Below.refl w5.heap.size w5
          go_wp2
          go_region_law
            (first
              | (go_simp; go_at_call 137; (with_reducible refine (HOWN.out _ (by first | exact hb5 | exact hb5.drew)).mono ?_); rintro e w6 ⟨g6, c6, rfl, ho6, hb6⟩; have hb6' : Below w5.heap.size w5 w6 := (by first | exact hb6 | exact below_trans hbw.drew hb6))
              | (refine step_appM elem_int rfl (.tmp 37) (.tmp 41) rfl w5.heap.size rfl (by first | exact ho6 | exact own_drew ho6) ad (zs.length - (k + 1)) (c - (k + 1)) ((zs.drop (k + 1)).map (Value.int .i64)) rfl (by simp) (newsRest (fun j hj => below_cell (below_trans hb5 hb6') (HC0.out j hj)) HAD.out) (fun u hu => by obtain ⟨x, _, rfl⟩ := List.mem_map.1 hu; rfl) (by unfold maxLen; omega) (by omega) hb6'.size ?_; intro g7 c7 w7 ho7 hg7 hs7))
          all_goals
            have hb7 : Below w5.heap.size w5 w7 := hb6'.grown hg7 hb6'.size (fun g hg => by cases hg; exact (own_block ho6 rfl).1)
            have hle : k + (zs.length - (k + 1)) = (zs.eraseIdx k).length := by rw [List.length_eraseIdx, if_pos hlt]; omega
            rw [← List.map_append, ← List.eraseIdx_eq_take_drop_succ] at ho7
            have HC := Lib.hid (HIH.out (zs.eraseIdx k) (.slice (some ⟨g7, 0, none⟩) (k + (zs.length - (k + 1))) c7) w7 HLZ.out (by rw [hle] at ho7 ⊢; exact intsC_own ho7))
            clear hle ho7 hg7 ho6 hb6 hb6' hs7 s1 s2
            have hMp := arr_pos n (zs.eraseIdx k) HLZ.out
            have hM18 : (arrTo n zs k).length + (arr n (zs.eraseIdx k)).length ≤ 18 := by
              have h := HLE.out (k + 1) (by omega)
              rw [HTK.out, List.length_append, List.length_map] at h
              exact h
            have HR3 := Lib.hid (fun r (hr : r ∈ arr n (zs.eraseIdx k)) => arr_lens n (zs.eraseIdx k) HLZ.out r hr)
            obtain ⟨M, hM⟩ : ∃ M, M = arr n (zs.eraseIdx k) := ⟨_, rfl⟩
            rw [← hM] at HC hMp hM18 HTK HR3
            clear hM
            go_wp2_with fail
            refine HC.out.mono ?_
            rintro e w8 ⟨v8, rs8, rfl, ho8, hb8, hnn8⟩
            obtain ⟨gm, cm, rfl, hcm⟩ := own_some ho8.outer hMp
            have hb8w : Below w5.heap.size w5 w8 := below_trans hb7 hb8
            have hsz7 := hb7.size
            obtain ⟨rs5, ho5, hnn5⟩ := HT5.out
            have hu5 : ∀ g, (Value.slice au mu cu).ownBlock = some g → g < w5.heap.size := fun g hg => (own_block ho5.outer hg).2
            have hu5l : ∀ g, (Value.slice au mu cu).ownBlock = some g → w.heap.size ≤ g := fun g hg => (own_block ho5.outer hg).1
            have HA0 : Hid (AInv w8 w8 w.heap.size (Value.slice au mu cu).ownBlock (.slice au mu cu) (arrTo n zs k ++ (M.take 0).map (z :: ·))) := by
              rw [List.take_zero, List.map_nil, List.append_nil]
              exact ⟨⟨rs5, ho5.below hb8w, hnn5⟩, grown_below (Below.refl _ _), SN.refl _ _⟩
            have HMK : Hid (∀ W, w8.grownBy W (Value.slice au mu cu).ownBlock → OwnRows W w7.heap.size (.slice (some ⟨gm, 0, none⟩) M.length cm) rs8 M) := by
              intro W hW
              refine ho8.keptBy hW (.inr fun e => ?_) fun q hq => ?_
              · have h2 := hu5 gm e.symm
                have h3 := own_block ho8.outer (show (Value.slice (some ⟨gm, 0, none⟩) M.length cm).ownBlock = some gm from rfl)
                omega
              · cases hv : (rs8.getD q undef).ownBlock with
                | none => exact .inl rfl
                | some q2 =>
                  refine .inr fun e => ?_
                  have h1 := own_block (ho8.row q hq) hv
                  have h2 := hu5 q2 e.symm
                  omega
            have HBW : Hid (∀ W, w8.grownBy W (Value.slice au mu cu).ownBlock → Below w.heap.size w W) := fun W hW =>
              (below_trans hb5 hb8w).grown hW (by have := hb5.size; have := hb8w.size; omega) hu5l
            have HN8 := Lib.hid hnn8
            have hlow8 : w.heap.size ≤ w8.heap.size := Nat.le_trans hb5.size hb8w.size
            clear ho5 hnn5 HT5 ho8 hnn8 hb8 hb8w hb7 hb5 hu5 hu5l HC HMu hbw
            go_wp2
            go_loopw [3, 7] (fun u i wr => ∃ q : Nat, q ≤ M.length ∧ i = .int .i64 q ∧ Hid (AInv w8 wr w.heap.size (Value.slice au mu cu).ownBlock u (arrTo n zs k ++ (M.take q).map (z :: ·)))) (fun _ i _ => M.length - (intOf i).toNat)
            case atStart => exact ⟨0, Nat.zero_le _, rfl, HA0.out⟩
            case round =>
              obtain ⟨q, hq, rfl, HA⟩ := hrel
              have hbr := HBW.out _ HA.out.gr
              obtain ⟨ur, mr, cr, rfl, HMr⟩ : ∃ ao m c, _ = Value.slice ao m c ∧ Hid (m = (arrTo n zs k ++ (M.take q).map (z :: ·)).length) := by
                obtain ⟨rs, ho, _⟩ := HA.out.rows
                exact own_shape ho.outer
              by_cases hqt : q < M.length
              · have hMr := HMK.out _ HA.out.gr
                obtain ⟨gr, c9, hre⟩ := own_shape_some (hMr.row q hqt) (HN8.out q hqt)
                have e1 := hMr.outer.cellAt q (by omega)
                rw [show rs8[q]? = some (rs8.getD q undef) by rw [List.getD_eq_getElem?_getD, List.getElem?_eq_getElem (by rw [hMr.len]; exact hqt)]; rfl, hre] at e1
                have hrow := hMr.row q hqt
                rw [hre] at hrow
                have hrl : (M.getD q []).length = n := HR3.out _ (getD_mem hqt [])
                have HCT := Lib.hid (cons_take (M := M) (z := z) hqt)
                obtain ⟨row, hrw⟩ : ∃ row, row = M.getD q [] := ⟨_, rfl⟩
                rw [← hrw] at e1 hrow hrl HCT
                have HROW := Lib.hid hrow
                have hr3 : row.length ≤ 3 := by omega
                have d := below_cell hbr (HC0.out k hlt)
                rw [HZZ.out] at d
                have le1 := block_lt_of_cell e1
                have ld := block_lt_of_cell d
                have i1 := idx_of Try.underlying32 size1_int (ao := some ⟨b, o, none⟩) (b := b) (o := o) (n := zs.length) (c := c) (fun _ => rfl) hlt .i64
                have i2 := idx_of Try.underlying22 size1_ints (ao := some ⟨gm, 0, none⟩) (b := gm) (o := 0) (n := M.length) (c := cm) (fun _ => rfl) hqt .i64
                rw [Nat.zero_add] at i2
                obtain ⟨rsr, hor, hnr⟩ := HA.out.rows
                have hzl : (arrTo n zs k ++ (M.take q).map (z :: ·)).length ≤ 18 := by rw [List.length_append, List.length_map, List.length_take]; omega
                have HOR := Lib.hid hor
                have HNR := Lib.hid hnr
                have hlor : w.heap.size ≤ wr.heap.size := Nat.le_trans hlow8 HA.out.gr.size
                clear hMr hre hrow hrw hor hnr hcm hrl
                go_wp2
                go_region_law
                  (first
                    | (refine step_appM elem_int rfl (.tmp 56) (.tmp 60) rfl wr.heap.size rfl (by first | exact World.ownsRow_lit wr #[.int .i64 z] 1 (Nat.le_refl _) (by unfold maxLen; omega) (by simp) | exact own_drew (World.ownsRow_lit wr #[.int .i64 z] 1 (Nat.le_refl _) (by unfold maxLen; omega) (by simp))) ⟨gr, 0, none⟩ row.length c9 (row.map (Value.int .i64)) rfl (by simp) (newsOwn HROW.out (by first | exact below_alloc (Below.refl _ _) _ | exact (below_alloc (Below.refl _ _) _).drew | exact below_alloc (Below.refl _ _).drew _)) (fun u hu => by obtain ⟨x, _, rfl⟩ := List.mem_map.1 hu; rfl) (by unfold maxLen; omega) (by omega) (by simp) ?_; intro g12 c12 w12 ho12 hg12 hs12; have hb12 : Below wr.heap.size wr w12 := (by first | exact lit_grown (Below.refl _ _) hg12 (Nat.le_refl _) | exact lit_grown (W := wr) (Below.refl _ _) (show (wr.alloc _).grownBy _ _ from ⟨hg12.os, hg12.tape, hg12.output, hg12.size, hg12.block⟩) (Nat.le_refl _)))
                    | (refine step_appS elem_ints rfl (.tmp 51) (.tmp 62) rfl w.heap.size rfl (own_below HOR.out.outer (below_alloc hb12 _)) w12.heap.size (.slice (some ⟨g12, 0, none⟩) (1 + row.length) c12) rfl (by go_simp) rfl (by unfold maxLen; omega) (by omega) (by have := hb12.size; simp; omega) ?_; intro v14 w14 ho14 hg14 hs14; obtain ⟨a14, m14, c14, rfl, HM14⟩ := own_shape ho14))
                all_goals
                  have hr14 : (w12.alloc (.cells #[.slice (some ⟨g12, 0, none⟩) (1 + row.length) c12] 32)).ownsRow wr.heap.size 2 1 (.slice (some ⟨g12, 0, none⟩) (1 + row.length) c12) (z :: row).length ((z :: row).map (Value.int .i64)) := by
                    have h := ho12.alloc (.cells #[.slice (some ⟨g12, 0, none⟩) (1 + row.length) c12] 32)
                    rw [show (z :: row).length = 1 + row.length by simp; omega]
                    exact h
                  have hA14 := HA.out.give hlor HOR.out HNR.out (below_alloc hb12 _) hr14 (by simp [Value.ownBlock]) ho14 hg14 hs14
                  rw [List.append_assoc, ← HCT.out] at hA14
                  have HA14 := Lib.hid hA14
                  clear hA14 hr14 ho14 hg14 hs14 ho12 hg12 hs12 hb12
                  go_wp2
                  go_roundw
                  case rel => exact ⟨q + 1, by omega, by go_num, HA14.out⟩
                  case measure => simp [intOf]; omega
              · obtain rfl : q = M.length := by omega
                clear i1
                go_wp2
                go_roundw
                case rel =>
                  obtain ⟨rs, ho, hnn⟩ := HA.out.rows
                  rw [List.take_length, ← HTK.out] at ho hnn
                  exact ⟨k + 1, by omega, by go_num, ⟨rs, ho, hnn⟩, hbr⟩
                case measure => simp [intOf]; omega
    · obtain rfl : k = zs.length := by omega
      clear hne0
      go_wp2
      go_ret
      obtain ⟨rs, ho, hnn⟩ := HT.out
      rw [HALL.out]
      exact ⟨_, rs, rfl, ho, hb, hnn⟩

theorem arran_any : ∀ n, ArranIs n
  | 0 => arran_zero
  | n + 1 => arran_succ n (arran_any n)

end Go.Proofs.Ytlgnbbfhejjodaa
