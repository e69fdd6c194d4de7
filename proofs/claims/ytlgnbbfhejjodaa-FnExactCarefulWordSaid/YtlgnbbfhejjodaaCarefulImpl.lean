/- CarefulWord of the program: the list of the sets and the map of their first words, in slots. -/
import Derived.Test.YtlgnbbfhejjodaaCarefulStep
import Derived.Test.YtlgnbbfhejjodaaShortest
import Derived.Deep.Cut
import Derived.Deep.DeepCutAuto
namespace Go.Proofs.Ytlgnbbfhejjodaa
set_option linter.unusedVariables false
set_option linter.unusedSimpArgs false
open Go.ChangeShapes Go.WideShapes Go.ChangeAt Go.RowKit

/-- the list of the sets, the map of their words -/
structure FInv (W w : World) (lo mb : Nat) (lv : Value) (S : List Nat) (T : Tour) : Prop where
  list : w.ownsRow lo 83 1 lv S.length (flVals S)
  words : WordMap w lo mb T
  below : Below lo W w
  low : lo ≤ w.heap.size
theorem FInv.next {W w w' : World} {lo mb : Nat} {lv : Value} {S : List Nat} {T : Tour} (h : FInv W w lo mb lv S T) (hb : Below w.heap.size w w') : FInv W w' lo mb lv S T :=
  ⟨own_below h.list hb, h.words.below hb, h.below.trans (hb.mono h.low), Nat.le_trans h.low hb.size⟩
theorem FInv.put {W w w' : World} {lo mb : Nat} {lv u : Value} {S : List Nat} {T : Tour} {F : Lit → Option Value} {n s : Nat} {zs : List Int} (h : FInv W w lo mb lv S T) (hm : MapAt Try.prog 83 w mb n F) (hw : WordsAt w lo F T) (hm' : MapAt Try.prog 83 w' mb (T.length + 1) (putF F (.int .u64 (s : Int)) u)) (hg : w.grownBy w' (some mb)) (hs : s ∉ T.sets) (hmb : lo ≤ mb)
    (ho : w.ownsRow lo 2 1 u zs.length (zs.map (Value.int .i64))) (hnn : u ≠ .slice none 0 0) : FInv W w' lo mb lv S (T ++ [(s, zs)]) :=
  ⟨h.list.kept hg (.inr fun e => hm.ne_own h.list e.symm), ⟨_, by rw [List.length_append]; exact hm', hw.put hm hg hs (Nat.le_refl _) ho hnn⟩, h.below.grown hg h.low (fun g hg => by cases hg; exact hmb), Nat.le_trans h.low hg.size⟩
theorem FInv.pushList {W w w' : World} {lo mb s : Nat} {lv v : Value} {S : List Nat} {T : Tour} (h : FInv W w lo mb lv S T) (hg : w.grownBy w' lv.ownBlock) (ho : w'.ownsRow lo 83 1 v (S.length + 1) (flVals S ++ [.int .u64 (s : Int)])) : FInv W w' lo mb v (S ++ [s]) T :=
  ⟨by rw [flVals_snoc] at ho; rw [List.length_append, List.length_singleton]; exact ho, h.words.kept h.list (by decide) hg, h.below.grown hg h.low (fun g hg => (own_block h.list hg).1), Nat.le_trans h.low hg.size⟩
theorem ints2_eq {zs zs0 : List Int} {c c0 : Int} {w w' : World} {e : Ending} (h1 : zs = zs0) (h2 : c = c0) (h : NewInts2 zs0 c0 w e w') : NewInts2 zs c w e w' := by rw [h1, h2]; exact h

theorem hp_here {W : World} {o : Obj} {k : Nat} (h : k = W.heap.size) : (W.alloc o).heap[k]? = some o := by subst h; exact heap_alloc_new _ _
theorem hp_past {W : World} {o : Obj} {k : Nat} {r : Option Obj} (h : k < W.heap.size) (h2 : W.heap[k]? = r) : (W.alloc o).heap[k]? = r := (Below.heap_alloc W o k h).trans h2
theorem hp_below {n : Nat} {W W' : World} {k : Nat} {r : Option Obj} (hb : Below n W W') (h : k < n) (h2 : W.heap[k]? = r) : W'.heap[k]? = r := (hb.block k h).trans h2
theorem hp_grown {W W' : World} {m k : Nat} {r : Option Obj} (hg : W.grownBy W' (some m)) (h : k < W.heap.size) (hne : k ≠ m) (h2 : W.heap[k]? = r) : W'.heap[k]? = r := (hg.block k h (fun e => hne (by injection e))).trans h2
theorem hp_drew {W : World} {k : Nat} {r : Option Obj} (h : W.heap[k]? = r) : W.drew.heap[k]? = r := h
theorem hp_size (W : World) (o : Obj) : (W.alloc o).heap.size = W.heap.size + 1 := by simp
theorem hp_ne {W : World} {k m : Nat} {o o2 : Obj} (h : W.heap[k]? = some o) (h2 : W.heap[m]? = some o2) (hne : o ≠ o2) : k ≠ m := by rintro rfl; rw [h] at h2; injection h2 with h2; exact hne h2
theorem MapAt.of_new {P : Program} {k : TypeId} {W : World} {mb : Nat} (h : W.heap[mb]? = some (.map #[] 0)) : MapAt P k W mb 0 (fun _ => none) := by
  obtain ⟨D, ⟨es, clock, hb, hr⟩, h2⟩ := MapAt.made P k W
  rw [heap_alloc_new] at hb
  injection hb with hb
  injection hb with h3 h4
  subst h3
  subst h4
  exact ⟨D, ⟨_, _, h, hr⟩, h2⟩
theorem MapAt.moved {P : Program} {k : TypeId} {W W' : World} {mb n : Nat} {f : Lit → Option Value} (hm : MapAt P k W mb n f) (h : W'.heap[mb]? = W.heap[mb]?) : MapAt P k W' mb n f := by
  obtain ⟨D, ⟨es, clock, hb, hr⟩, h2⟩ := hm
  exact ⟨D, ⟨es, clock, h.trans hb, hr⟩, h2⟩
theorem held_put {w0 w1 w2 : World} {mb : Nat} (h : Below w0.heap.size w0 w1 ∧ ∀ b o, b < w0.heap.size → w1.cell? ⟨b, o, none⟩ = w0.cell? ⟨b, o, none⟩) (hg : w1.grownBy w2 (some mb)) (hl : w0.heap.size ≤ mb) :
    Below w0.heap.size w0 w2 ∧ ∀ b o, b < w0.heap.size → w2.cell? ⟨b, o, none⟩ = w0.cell? ⟨b, o, none⟩ := held_with (Below.grown h.1 hg h.1.size fun g hg => by cases hg; exact hl)
theorem FInv.start {W wx : World} {lb mb eb f : Nat} (hl : wx.heap[lb]? = some (.cells #[.int .u64 (f : Int)] 83)) (he : wx.heap[eb]? = some (.cells #[] 2))
    (hm : MapAt Try.prog 83 wx mb 1 (putF (fun _ => none) (.int .u64 (f : Int)) (.slice (some ⟨eb, 0, none⟩) 0 0))) (h1 : W.heap.size ≤ lb) (h2 : W.heap.size ≤ eb) (h3 : Below W.heap.size W wx) : FInv W wx W.heap.size mb (.slice (some ⟨lb, 0, none⟩) 1 1) [f] [(f, [])] := by
  have hlist : wx.ownsRow W.heap.size 83 1 (.slice (some ⟨lb, 0, none⟩) 1 1) 1 [.int .u64 (f : Int)] := ⟨rfl, .inr ⟨lb, 1, _, rfl, h1, hl, Nat.le_refl _, by unfold maxLen; omega, rfl, rfl⟩⟩
  have hemp : wx.ownsRow W.heap.size 2 1 (.slice (some ⟨eb, 0, none⟩) 0 0) 0 [] := ⟨rfl, .inr ⟨eb, 0, _, rfl, h2, he, Nat.le_refl _, by unfold maxLen; omega, rfl, rfl⟩⟩
  refine ⟨hlist, ⟨_, hm, fun r => ?_, fun k hk => ?_⟩, h3, h3.size⟩
  · rw [putF_int]
    by_cases hr : (r : Int) = (f : Int)
    · have : r = f := by omega
      subst this
      simp [Tour.sets]
    · rw [if_neg hr]
      have : r ≠ f := fun e => hr (by rw [e])
      simp [Tour.sets, this]
  · simp at hk
    subst hk
    exact ⟨_, by rw [putF_int]; exact if_pos rfl, hemp, by intro h; cases h⟩

set_option maxRecDepth 100000 in
set_option maxHeartbeats 4000000 in
theorem implCareful_any (st : Int) (v : Value) (xss : List (List Int)) (w : World) (h1 : Rows2 w v xss) :
    Calls Try.prog 52 #[.agg #[.int .i64 st, v]] w (NewInts2 (cwZs st xss) (cwCd st xss) w) := by
  obtain ⟨ao, ab, o, c, H⟩ := h1.open
  have hv0 := H.val
  subst hv0
  obtain ⟨m, hm⟩ : ∃ m, m = xss.length := ⟨_, rfl⟩
  rw [← hm] at h1 ⊢
  obtain ⟨W1, hW1⟩ : ∃ W1, W1 = w.alloc (.cells #[.int .i64 st, .slice ao m c] 58) := ⟨_, rfl⟩
  have bx : Below w.heap.size w W1 := by rw [hW1]; exact below_alloc (Below.refl _ _) _
  have p0 : W1.cell? ⟨w.heap.size, 0, none⟩ = some (.int .i64 st) := by rw [hW1]; go_simp
  have p1 : W1.cell? ⟨w.heap.size, 1, none⟩ = some (.slice ao m c) := by rw [hW1]; go_simp
  have HOK := Lib.hid (validPart_any st _ xss W1 (h1.kept bx))
  cases hv : validP st xss
  · rw [show cwZs st xss = [] by simp [cwZs, hv], show cwCd st xss = 1 by simp [cwCd, hv]]
    rw [hv] at HOK
    subst hW1
    clear hv h1 H hm
    go_enter Try.func52, Try.ntmps52
    go_wp2_with fail
    refine HOK.out.mono ?_
    rintro e w2 ⟨rfl, hb⟩
    go_wp2
    go_ret2
    exact ⟨_, rfl, World.ownsRow_nil _ _ _ _, below_trans bx hb⟩
  · obtain ⟨n, hg⟩ := goodQ_of hv
    obtain rfl := hg.st
    rw [show cwZs n xss = wordP smallB (tourP xss (2 ^ n - 1)) by simp [cwZs, hv, cwT], show cwCd n xss = codeP smallB (tourP xss (2 ^ n - 1)) by simp [cwCd, hv, cwT]]
    rw [hv] at HOK
    have hn10 := hg.hi
    have hl1 := hg.len1
    have hl3 := hg.len3
    have hp := Nat.two_pow_pos n
    have hp2 : 2 ^ n ≤ 1024 := Nat.pow_le_pow_right (by decide) hn10
    obtain ⟨f, hf⟩ : ∃ f, f = 2 ^ n - 1 := ⟨_, rfl⟩
    have hfl : f < 2 ^ n := by omega
    have hf2 : f < 1024 := by omega
    have HALL : Hid (∀ W, Calls Try.prog 98 #[.agg #[.int .i64 n, .slice ao m c]] W (RetB (.int .u64 (f : Int)) W)) := fun W => by rw [hf]; exact partAll_any n m c ao W hn10
    rw [← hf]
    have HG := Lib.hid hg
    have HGT := Lib.hid (fun i => GoodT.outerP hg hfl i)
    have H1 := Lib.hid h1
    have HKF := Lib.hid (key_flock hf2)
    have hmm := @run_makeMap Try.prog
    have hmx : m ≤ maxLen := by rw [hm]; unfold maxLen; omega
    have HLET := Lib.hid (fun W => lettersPart_any n ao m c W (by unfold maxLen at hmx; omega))
    have HM := Lib.hid hm
    subst hW1
    clear hv h1 hf hfl hg hp hp2 H hm hmx
    go_enter Try.func52, Try.ntmps52
    go_wp2_with fail
    refine HOK.out.mono ?_
    rintro e w2 ⟨rfl, hb⟩
    replace p0 := below_cell hb p0
    replace p1 := below_cell hb p1
    have bw2 := below_trans bx hb
    have hz2 := block_lt_of_cell p0
    clear hb
    go_upto_region 3 with fail
    go_cut [4, 5] (fun lv mv wx => ∃ mb : Nat, mv = .map (some mb) ∧ w2.heap.size ≤ mb ∧ FInv w2 wx w2.heap.size mb lv [f] [(f, [])])
    case first =>
      have hdr : w2.drew.heap.size = w2.heap.size := rfl
      go_region_held3 (fun w' => Below w2.heap.size w2 w' ∧ ∀ b o, b < w2.heap.size → w'.cell? ⟨b, o, none⟩ = w2.cell? ⟨b, o, none⟩) (first | exact held_start | assumption | exact held_nx (by assumption) (by assumption) | exact held_alloc (by assumption) | exact held_put (by assumption) (by assumption) (by first | omega | (simp; done) | (simp; omega))) (first | (go_simp; go_at_call 98; refine (HALL.out _).mono ?_; rintro e wA ⟨rfl, hbA⟩; have hsA := hbA.size; (try simp at hsA)) | ((with_reducible refine upon_put (n := 0) (f := fun _ => none) ?_ flock_law Try.underlying78 ?_ HKF.out ?_); (focus (refine MapAt.of_new ?_; (iterate 10 (try (first | ((with_reducible refine hp_past ?_ ?_); (focus omega)) | ((with_reducible refine hp_past ?_ ?_); (focus (simp; done))) | ((with_reducible refine hp_past ?_ ?_); (focus (simp; omega))) | ((with_reducible refine hp_here ?_); (focus omega)) | ((with_reducible refine hp_here ?_); (focus (simp; done))) | ((with_reducible refine hp_here ?_); (focus (simp; omega))) | ((with_reducible refine hp_below (by assumption) ?_ ?_); (focus omega)) | ((with_reducible refine hp_below (by assumption) ?_ ?_); (focus (simp; done))) | ((with_reducible refine hp_below (by assumption) ?_ ?_); (focus (simp; omega))) | (with_reducible refine hp_drew ?_)))); done)); (focus (unfold maxLen; omega; done)); intro wu hmu hgu; have hsu := hgu.size; (try simp at hsu)))
      all_goals
        go_wp2_with fail
        go_meet
        case rel =>
          refine ⟨_, rfl, ?_, FInv.start ?_ ?_ (MapAt.moved hmu ?_) ?_ ?_ (And.left (by assumption))⟩
          · first | omega | (simp; done) | (simp; omega)
          · (iterate 10 (try (first | ((with_reducible refine hp_past ?_ ?_); (focus omega)) | ((with_reducible refine hp_past ?_ ?_); (focus (simp; done))) | ((with_reducible refine hp_past ?_ ?_); (focus (simp; omega))) | ((with_reducible refine hp_here ?_); (focus omega)) | ((with_reducible refine hp_here ?_); (focus (simp; done))) | ((with_reducible refine hp_here ?_); (focus (simp; omega))) | ((with_reducible refine hp_below (by assumption) ?_ ?_); (focus omega)) | ((with_reducible refine hp_below (by assumption) ?_ ?_); (focus (simp; done))) | ((with_reducible refine hp_below (by assumption) ?_ ?_); (focus (simp; omega))) | (with_reducible refine hp_drew ?_) | ((with_reducible refine hp_grown hgu ?_ ?_ ?_); (focus omega); (focus omega)) | ((with_reducible refine hp_grown hgu ?_ ?_ ?_); (focus omega); (focus (simp; done))) | ((with_reducible refine hp_grown hgu ?_ ?_ ?_); (focus omega); (focus (simp; omega))) | ((with_reducible refine hp_grown hgu ?_ ?_ ?_); (focus (simp; done)); (focus omega)) | ((with_reducible refine hp_grown hgu ?_ ?_ ?_); (focus (simp; done)); (focus (simp; done))) | ((with_reducible refine hp_grown hgu ?_ ?_ ?_); (focus (simp; done)); (focus (simp; omega))) | ((with_reducible refine hp_grown hgu ?_ ?_ ?_); (focus (simp; omega)); (focus omega)) | ((with_reducible refine hp_grown hgu ?_ ?_ ?_); (focus (simp; omega)); (focus (simp; done))) | ((with_reducible refine hp_grown hgu ?_ ?_ ?_); (focus (simp; omega)); (focus (simp; omega))))))
          · (iterate 10 (try (first | ((with_reducible refine hp_past ?_ ?_); (focus omega)) | ((with_reducible refine hp_past ?_ ?_); (focus (simp; done))) | ((with_reducible refine hp_past ?_ ?_); (focus (simp; omega))) | ((with_reducible refine hp_here ?_); (focus omega)) | ((with_reducible refine hp_here ?_); (focus (simp; done))) | ((with_reducible refine hp_here ?_); (focus (simp; omega))) | ((with_reducible refine hp_below (by assumption) ?_ ?_); (focus omega)) | ((with_reducible refine hp_below (by assumption) ?_ ?_); (focus (simp; done))) | ((with_reducible refine hp_below (by assumption) ?_ ?_); (focus (simp; omega))) | (with_reducible refine hp_drew ?_) | ((with_reducible refine hp_grown hgu ?_ ?_ ?_); (focus omega); (focus omega)) | ((with_reducible refine hp_grown hgu ?_ ?_ ?_); (focus omega); (focus (simp; done))) | ((with_reducible refine hp_grown hgu ?_ ?_ ?_); (focus omega); (focus (simp; omega))) | ((with_reducible refine hp_grown hgu ?_ ?_ ?_); (focus (simp; done)); (focus omega)) | ((with_reducible refine hp_grown hgu ?_ ?_ ?_); (focus (simp; done)); (focus (simp; done))) | ((with_reducible refine hp_grown hgu ?_ ?_ ?_); (focus (simp; done)); (focus (simp; omega))) | ((with_reducible refine hp_grown hgu ?_ ?_ ?_); (focus (simp; omega)); (focus omega)) | ((with_reducible refine hp_grown hgu ?_ ?_ ?_); (focus (simp; omega)); (focus (simp; done))) | ((with_reducible refine hp_grown hgu ?_ ?_ ?_); (focus (simp; omega)); (focus (simp; omega))))))
          · (iterate 10 (try (first | ((with_reducible refine hp_past ?_ ?_); (focus omega)) | ((with_reducible refine hp_past ?_ ?_); (focus (simp; done))) | ((with_reducible refine hp_past ?_ ?_); (focus (simp; omega))) | (with_reducible refine hp_drew ?_))))
            with_reducible rfl
          · first | omega | (simp; done) | (simp; omega)
          · first | omega | (simp; done) | (simp; omega)
    case rest =>
      obtain ⟨mb, rfl, hmb, hI⟩ := hcut
      have HI0 := Lib.hid hI
      have HKEY := Lib.hid (fun s (h : s < 1024) => key_flock h)
      have hk0 : keyOf Try.prog 83 (.int .u64 0) = some (.int .u64 0) := key_flock (s := 0) (by omega)
      have HK0 := Lib.hid hk0
      have HMB := Lib.hid hmb
      have HBW2 := Lib.hid bw2
      obtain rfl : m = xss.length := HM.out
      clear hI hk0 hmb bw2 hmm
      go_wp2
      go_loopw [4, 6] (fun lv i wr => ∃ k : Nat, k ≤ (outerP xss f k).length ∧ i = .int .i64 k ∧ Hid (FInv w2 wr w2.heap.size mb lv (outerP xss f k).sets (outerP xss f k)) ∧ Hid (∀ j, j < k → smallB ((outerP xss f k).at j).1 = false)) (fun _ i _ => 1024 - (intOf i).toNat)
      case atStart => exact ⟨0, Nat.zero_le _, rfl, HI0.out, fun j hj => absurd hj (by omega)⟩
      case round =>
        obtain ⟨k, hk, rfl, HI, HNO⟩ := hrel
        have hgt := HGT.out k
        have hlen := hgt.len10 hn10
        have HST := Lib.hid (fun (hlt : k < (outerP xss f k).length) => outerP_round hlt)
        have HSTOP := Lib.hid (fun (h : (outerP xss f k).length ≤ k) (h2 : k ≤ 1024) => tourP_stop h h2)
        have HYES := Lib.hid (fun (h : k ≤ 1024) (hlt : k < (outerP xss f k).length) hp => firstP_yes (p := smallB) h hlt hp HNO.out)
        have HNEXT := Lib.hid (fun (hlt : k < (outerP xss f k).length) hp => firstP_next (p := smallB) hlt hp HNO.out)
        have HNO2 : Hid (∀ j, j < k → smallB ((outerP xss f k).at j).1 = false) := HNO
        obtain ⟨T, hT⟩ : ∃ T, T = outerP xss f k := ⟨_, rfl⟩
        rw [← hT] at hk HI hgt hlen HST HYES HNEXT HSTOP HNO2
        clear HNO
        obtain ⟨hl, hwm, hbw, hlo⟩ := HI.out
        have hpos : 0 < T.length := by rw [hT]; have := outerP_pre xss f 0 k; rw [Nat.zero_add] at this; have h := this.1; simp [outerP_zero] at h; omega
        obtain ⟨lg, lc, rfl, hlc⟩ := own_some hl (by rw [Tour.sets_len]; exact hpos)
        have hlen2 := Tour.sets_len T
        rw [hlen2] at hl HI
        rw [hlen2]
        by_cases hlt : k < T.length
        · have i1 := idx_of Try.underlying77 size1_flock (ao := some ⟨lg, 0, none⟩) (b := lg) (o := 0) (n := T.length) (c := lc) (fun _ => rfl) hlt .i64
          rw [Nat.zero_add] at i1
          have t2 : wr.cell? ⟨lg, k, none⟩ = some (.int .u64 ((T.at k).1 : Int)) := by
            rw [hl.cellAt k (by omega), flVals_get (by rw [Tour.sets_len]; exact hlt), Tour.sets_at hlt]
          have hfl := hgt.lt _ (Tour.at_mem hlt)
          have hyes := HYES.out (by omega) hlt
          have hnext := HNEXT.out hlt
          obtain ⟨fk, hfk⟩ : ∃ fk, fk = (T.at k).1 := ⟨_, rfl⟩
          rw [← hfk] at t2 hfl hyes hnext
          have hfk2 : fk < 1024 := Nat.lt_of_lt_of_le hfl (Nat.pow_le_pow_right (by decide) hn10)
          have HSG := Lib.hid (fun W => isSmall_any fk W hfk2)
          have HFK := Lib.hid hfk
          have HT := Lib.hid hT
          have HGTT := Lib.hid hgt
          have HFL := Lib.hid hfl
          have HNX := Lib.hid hnext
          have HY := Lib.hid hyes
          clear hfk hT hgt hfl hnext hyes HYES HNEXT
          cases hsm : smallB fk
          · rw [hsm] at HSG
            have HSM := Lib.hid hsm
            have q0 := below_cell hbw p0
            have q1 := below_cell hbw p1
            clear hsm hl hwm
            go_wp2_with fail
            refine (HSG.out _).mono ?_
            rintro e w3 ⟨rfl, rfl⟩
            clear t2 i1
            go_wp2_with fail
            refine (HLET.out _).mono ?_
            rintro e w4 ⟨rfl, hb4⟩
            have HI2 : Hid (FInv w2 w4 w2.heap.size mb (.slice (some ⟨lg, 0, none⟩) T.length lc) T.sets T) := HI.out.next hb4
            clear q0 q1 hb4 hbw hlo
            go_wp2
            go_loopw [4, 41] (fun lv i wr => ∃ x : Nat, x ≤ xss.length ∧ i = .int .i64 x ∧ Hid (FInv w2 wr w2.heap.size mb lv (innerP xss k T x).sets (innerP xss k T x))) (fun _ i _ => xss.length - (intOf i).toNat)
            case atStart => exact ⟨0, Nat.zero_le _, rfl, HI2.out⟩
            case round =>
              obtain ⟨x, hx, rfl, HX⟩ := hrel
              have hgx := GoodT.innerP HG.out HGTT.out hlt x hx
              have hlx := hgx.len10 hn10
              have hTx := innerP_len xss k T x
              have hatx := innerP_at xss k T x hlt
              have HSTX := Lib.hid (innerP_succ xss k T x)
              have HEND := Lib.hid (fun (h : x = xss.length) => (show innerP xss k T x = innerP xss k T xss.length by rw [h]))
              obtain ⟨U, hU⟩ : ∃ U, U = innerP xss k T x := ⟨_, rfl⟩
              rw [← hU] at HX hgx hlx hTx hatx HSTX HEND
              have hUk : k < U.length := by omega
              clear hU
              obtain ⟨hl, hwm, hbw, hlo⟩ := HX.out
              have hlen3 := Tour.sets_len U
              obtain ⟨lg2, lc2, rfl, hlc2⟩ := own_some hl (by rw [Tour.sets_len]; omega)
              rw [hlen3] at hl HX
              rw [hlen3]
              have q0 := below_cell hbw p0
              have q1 := below_cell hbw p1
              by_cases hltx : x < xss.length
              · have hstep : stepP xss k U x = if badR xss x fk = true then U else stepT xss k U x := by unfold stepP; rw [hatx, ← HFK.out]
                have hrow := HG.out.row hltx
                have HL4 := Lib.hid (fun cd ok hy hno => partStep_any n _ xss n fk x wr (H1.out.kept (below_trans HBW2.out hbw)) HG.out hltx HFL.out cd ok hy hno)
                cases hbad : badR xss x fk
                · rw [hbad] at hstep
                  have hmt : moved (xss.getD x []) fk < 2 ^ n := movedTo_ltP hrow.2 (Nat.le_refl _) (by simpa [badR] using hbad)
                  have hstep2 : stepT xss k U x = if moved (xss.getD x []) fk ∈ U.sets then U else U ++ [(moved (xss.getD x []) fk, (T.at k).2 ++ [(x : Int)])] := by unfold stepT; rw [hatx, ← HFK.out]
                  have HCL := Lib.hid (HL4.out (moved (xss.getD x []) fk : Int) true (fun h => by rw [hbad] at h; cases h) (fun _ => ⟨rfl, rfl⟩))
                  rw [if_neg (by simp)] at hstep
                  rw [hstep2] at hstep
                  obtain ⟨tq, htq⟩ : ∃ tq, tq = moved (xss.getD x []) fk := ⟨_, rfl⟩
                  rw [← htq] at HCL hmt hstep
                  have htq2 : tq < 1024 := Nat.lt_of_lt_of_le hmt (Nat.pow_le_pow_right (by decide) hn10)
                  have HSTP := Lib.hid hstep
                  have HATX := Lib.hid hatx
                  clear htq hstep hstep2 hbad hrow HL4 hatx hwm hl hmt
                  go_wp2_with fail
                  refine HCL.out.mono ?_
                  rintro e w3 ⟨rfl, hb3⟩
                  have HX3 := Lib.hid (HX.out.next hb3)
                  obtain ⟨F, hmp, hwd⟩ := HX3.out.words
                  have hmet := hwd.met tq
                  have hlook := hmp.lookOk flock_law Try.underlying78 (zero_ints w3) (key_flock htq2)
                  rw [hmet] at hlook
                  clear q0 q1 hb3 hbw hlo
                  by_cases hin : tq ∈ U.sets
                  · rw [decide_eq_true hin] at hlook
                    obtain ⟨u, hu⟩ : ∃ u, u = (F (.int .u64 (tq : Int))).getD (.slice none 0 0) := ⟨_, rfl⟩
                    rw [← hu] at hlook
                    have hst2 := HSTP.out
                    rw [if_pos hin] at hst2
                    rw [hst2] at HSTX
                    clear hin hst2 hmet hwd hmp hu
                    go_wp2
                    go_roundw
                    case rel => exact ⟨x + 1, by omega, by go_num, by rw [HSTX.out]; exact HX3.out⟩
                    case measure => simp [intOf]; omega
                  · rw [decide_eq_false hin] at hlook
                    have hnone : F (.int .u64 (tq : Int)) = none := by
                      have := hmet
                      rw [decide_eq_false hin] at this
                      simpa using this
                    rw [hnone] at hlook
                    have hst2 := HSTP.out
                    rw [if_neg hin] at hst2
                    rw [hst2] at HSTX
                    obtain ⟨uf, huf, hof, _⟩ := hwd.word k hUk
                    have hwl := hgx.word _ (Tour.at_mem hUk)
                    rw [HATX.out] at huf hof hwl
                    rw [← HFK.out] at huf
                    obtain ⟨zs, hzs⟩ : ∃ zs, zs = (T.at k).2 := ⟨_, rfl⟩
                    rw [← hzs] at hof hwl HSTX
                    have hlf := hmp.look flock_law Try.underlying78 (zero_ints w3) (key_flock hfk2)
                    rw [huf] at hlf
                    obtain ⟨au, mu, cu, rfl, HMu⟩ := own_shape hof
                    have HCLN := Lib.hid (cloneInts_any _ zs w3 (ints_of_own hof) (by omega))
                    have HWD := Lib.hid hwd
                    have HMP := Lib.hid hmp
                    have HIN := Lib.hid hin
                    have HKT := Lib.hid (key_flock htq2)
                    clear hin hst2 hmet hwd hmp huf hof hzs hnone
                    go_wp2_with fail
                    refine HCLN.out.mono ?_
                    rintro e w4 ⟨v4, rfl, ho4, hb4⟩
                    obtain ⟨a4, m4, c4, rfl, HA4⟩ := own_shape ho4
                    have hsz4 := hb4.size
                    have HO4 := Lib.hid ho4
                    have HB4 := Lib.hid hb4
                    clear hlf hlook ho4 hb4
                    go_wp2_with (at_builtin; refine wpList_push elem_int rfl (.tmp 67) (.tmp 69) rfl w3.heap.size rfl HO4.out _ rfl rfl (by unfold maxLen; omega) (by omega) hsz4 ?_; intro v5 w5 ho5 hg5 hs5; have HB5 := Lib.hid (HB4.out.grown hg5 hsz4 (fun g hg => (own_block HO4.out hg).1)); have HO5 := Lib.hid ho5; obtain ⟨a5, m5, c5, rfl, HA5⟩ := own_shape ho5; clear ho5 hg5 hs5)
                    refine upon_put (HMP.out.below HB5.out) flock_law Try.underlying78 (by unfold maxLen; omega) HKT.out ?_
                    intro w6 hm6 hg6
                    have HX6 := Lib.hid ((HX3.out.next HB5.out).put (zs := zs ++ [(x : Int)]) (HMP.out.below HB5.out) (HWD.out.below HB5.out) hm6 hg6 HIN.out HMB.out (own_lo (by rw [List.map_append, List.length_append]; exact HO5.out) HX3.out.low) (by obtain ⟨g, cap, e, _⟩ := own_some HO5.out (by omega); rw [e]; intro h; cases h))
                    clear hm6 hg6 HO5 HB5 HO4 HB4 HMP HWD
                    have hl6 := HX6.out.list
                    have hlow6 := HX6.out.low
                    rw [hlen3] at hl6
                    have HL6 := Lib.hid hl6
                    clear hl6
                    go_wp2_with (at_builtin; refine wpList_push elem_flock rfl (.tmp 71) (.tmp 73) rfl w2.heap.size rfl HL6.out _ rfl rfl (by unfold maxLen; omega) (by omega) hlow6 ?_; intro v7 w7 ho7 hg7 hs7; have HX7 := Lib.hid (HX6.out.pushList (s := tq) hg7 (by rw [hlen3]; exact ho7)); obtain ⟨a7, m7, c7, rfl, HA7⟩ := own_shape ho7; clear ho7 hg7 hs7)
                    have HFin : Hid (FInv w2 w7 w2.heap.size mb (.slice a7 m7 c7) (innerP xss k T (x + 1)).sets (innerP xss k T (x + 1))) := by
                      rw [HSTX.out]
                      have es : Tour.sets (U ++ [(tq, zs ++ [(x : Int)])]) = U.sets ++ [tq] := by simp [Tour.sets]
                      unfold Hid
                      rw [es]
                      exact HX7.out
                    clear HX7 HX6 HL6
                    go_wp2
                    go_roundw
                    case rel => exact ⟨x + 1, by omega, by go_num, HFin.out⟩
                    case measure => simp [intOf]; omega
                · rw [hbad] at hstep
                  rw [if_pos rfl] at hstep
                  have HCL := Lib.hid (HL4.out 0 false (fun _ => ⟨rfl, rfl⟩) (fun h => by rw [hbad] at h; cases h))
                  rw [hstep] at HSTX
                  clear hstep hbad hrow HL4 hwm hl hatx
                  go_wp2_with fail
                  refine HCL.out.mono ?_
                  rintro e w3 ⟨rfl, hb3⟩
                  have HX3 := Lib.hid (HX.out.next hb3)
                  obtain ⟨F, hmp, hwd⟩ := HX3.out.words
                  have hlook := hmp.lookOk flock_law Try.underlying78 (zero_ints w3) HK0.out
                  obtain ⟨u0, hu0⟩ : ∃ u0, u0 = (F (.int .u64 0)).getD (.slice none 0 0) := ⟨_, rfl⟩
                  obtain ⟨y0, hy0⟩ : ∃ y0, y0 = (F (.int .u64 0)).isSome := ⟨_, rfl⟩
                  rw [← hu0, ← hy0] at hlook
                  clear q0 q1 hb3 hbw hlo hmp hwd hu0 hy0
                  go_wp2
                  go_roundw
                  case rel => exact ⟨x + 1, by omega, by go_num, by rw [HSTX.out]; exact HX3.out⟩
                  case measure => simp [intOf]; omega
              · obtain rfl : x = xss.length := by omega
                have hr := HST.out hlt
                rw [← HEND.out rfl] at hr
                have hs := HNX.out HSM.out
                rw [hr] at hs
                have HS := Lib.hid hs
                have HR := Lib.hid hr
                clear hr hs hwm hl
                go_wp2
                go_roundw
                case rel => exact ⟨k + 1, by rw [HR.out]; omega, by go_num, by rw [HR.out]; exact HX.out, by rw [HR.out]; exact HS.out⟩
                case measure => simp [intOf]; omega
          · rw [hsm] at HSG
            have hft := HY.out hsm
            have HWP : Hid (wordP smallB (tourP xss f) = (T.at k).2 ∧ codeP smallB (tourP xss f) = 0) := ⟨by unfold wordP; rw [hft]; rfl, by unfold codeP; rw [hft]; rfl⟩
            obtain ⟨F, hmp, hwd⟩ := hwm
            obtain ⟨uf, huf, hof, _⟩ := hwd.word k hlt
            rw [← HFK.out] at huf
            have hlf := hmp.look flock_law Try.underlying78 (zero_ints wr) (key_flock hfk2)
            rw [huf] at hlf
            obtain ⟨au, mu, cu, rfl, HMu⟩ := own_shape hof
            have HOF := Lib.hid (own_lo hof HBW2.out.size)
            have HBB := Lib.hid (below_trans HBW2.out hbw)
            clear hsm hft huf hof hwd hmp hl
            go_wp2_with fail
            refine (HSG.out _).mono ?_
            rintro e w3 ⟨rfl, rfl⟩
            go_wp2
            go_ret2
            exact ints2_eq HWP.out.1 HWP.out.2 ⟨_, rfl, HOF.out, HBB.out⟩
        · have hstop := HSTOP.out (by omega) (by omega)
          have hno : firstT smallB (tourP xss f) = none := by
            rw [← hstop]
            exact firstT_no fun j hj => HNO2.out j (by omega)
          have HWP : Hid (wordP smallB (tourP xss f) = [] ∧ codeP smallB (tourP xss f) = 6) := ⟨by unfold wordP; rw [hno]; rfl, by unfold codeP; rw [hno]; rfl⟩
          have HBB := Lib.hid (below_trans HBW2.out hbw)
          clear hstop hno hT hl hwm
          go_wp2
          go_ret2
          exact ints2_eq HWP.out.1 HWP.out.2 ⟨_, rfl, World.ownsRow_nil _ _ _ _, HBB.out⟩

end Go.Proofs.Ytlgnbbfhejjodaa
