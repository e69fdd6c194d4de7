import Derived.Lib.Split
import Derived.Lib.ParseIntB
/- PLAIN: a text cut at a byte; strings.Split's pieces at a separator of one byte are these. -/
namespace Go.Proofs.YtfdacodbiodiaaaGreatDoor
set_option linter.unusedVariables false
set_option linter.unusedSimpArgs false

/-- a text cut at every byte c -/
def cutL (c : UInt8) : List UInt8 → List (List UInt8)
  | [] => [[]]
  | x :: xs => if x = c then [] :: cutL c xs else
    match cutL c xs with
    | [] => [[x]]
    | p :: ps => (x :: p) :: ps

theorem cutL_ne (c : UInt8) (s : List UInt8) : cutL c s ≠ [] := by
  cases s with
  | nil => simp [cutL]
  | cons x xs =>
    unfold cutL
    split
    · simp
    · split <;> simp

theorem cutL_none (c : UInt8) : ∀ (a : List UInt8), c ∉ a → cutL c a = [a]
  | [], _ => rfl
  | x :: xs, h => by
    have h1 : ¬ x = c := fun e => h (by rw [e]; exact List.mem_cons_self ..)
    have h2 : c ∉ xs := fun e => h (List.mem_cons_of_mem _ e)
    unfold cutL
    rw [if_neg h1, cutL_none c xs h2]

theorem cutL_app (c : UInt8) : ∀ (a b : List UInt8), c ∉ a → cutL c (a ++ c :: b) = a :: cutL c b
  | [], b, _ => by
    show cutL c (c :: b) = _
    rw [cutL, if_pos rfl]
  | x :: xs, b, h => by
    have h1 : ¬ x = c := fun e => h (by rw [e]; exact List.mem_cons_self ..)
    have h2 : c ∉ xs := fun e => h (List.mem_cons_of_mem _ e)
    show cutL c (x :: (xs ++ c :: b)) = _
    rw [cutL, if_neg h1, cutL_app c xs b h2]

/-- the pieces joined again -/
def joinL (c : UInt8) : List (List UInt8) → List UInt8
  | [] => []
  | [p] => p
  | p :: q :: ps => p ++ c :: joinL c (q :: ps)

theorem joinL_cons (c : UInt8) (p : List UInt8) {ps : List (List UInt8)} (h : ps ≠ []) : joinL c (p :: ps) = p ++ c :: joinL c ps := by
  cases ps with
  | nil => exact absurd rfl h
  | cons q qs => rfl

theorem joinL_cutL (c : UInt8) : ∀ (s : List UInt8), joinL c (cutL c s) = s
  | [] => rfl
  | x :: xs => by
    have ih := joinL_cutL c xs
    have hne := cutL_ne c xs
    unfold cutL
    split
    · rename_i e
      rw [joinL_cons c _ hne, ih, e]; rfl
    · cases hc : cutL c xs with
      | nil => exact absurd hc hne
      | cons p ps =>
        rw [hc] at ih
        cases ps with
        | nil => simp only [joinL] at ih ⊢; rw [ih]
        | cons q qs => simp only [joinL] at ih ⊢; rw [← ih]; rfl

theorem cutL_free (c : UInt8) : ∀ (s : List UInt8) (p : List UInt8), p ∈ cutL c s → c ∉ p
  | [], p, h => by
    have : p = [] := by simpa [cutL] using h
    subst this; simp
  | x :: xs, p, h => by
    have ih := cutL_free c xs
    unfold cutL at h
    split at h
    · rcases List.mem_cons.1 h with h | h
      · subst h; simp
      · exact ih p h
    · rename_i hx
      split at h
      · have : p = [x] := by simpa using h
        subst this; simp; exact fun e => hx e.symm
      · rename_i q qs hc
        rw [hc] at ih
        rcases List.mem_cons.1 h with h | h
        · subst h
          intro hm
          rcases List.mem_cons.1 hm with e | e
          · exact hx e.symm
          · exact ih q (List.mem_cons_self ..) e
        · exact ih p (List.mem_cons_of_mem _ h)

/-- pieces free of c, joined and cut: the same -/
theorem cutL_joinL (c : UInt8) : ∀ (ps : List (List UInt8)), ps ≠ [] → (∀ p ∈ ps, c ∉ p) → cutL c (joinL c ps) = ps
  | [], h, _ => absurd rfl h
  | [p], _, h => cutL_none c p (h p (List.mem_cons_self ..))
  | p :: q :: ps, _, h => by
    rw [joinL_cons c p (by simp), cutL_app c _ _ (h p (List.mem_cons_self ..)), cutL_joinL c (q :: ps) (by simp) (fun r hr => h r (List.mem_cons_of_mem _ hr))]

theorem index_one (c b : UInt8) (l : List UInt8) : Lib.index (b :: l) [c] = if b = c then 0 else if Lib.index l [c] = -1 then -1 else Lib.index l [c] + 1 := by
  rw [Lib.index]
  by_cases h : b = c
  · rw [if_pos h, if_pos (by simp [h])]
  · rw [if_neg h, if_neg (by simp; exact fun e => h e.symm)]
    by_cases h2 : Lib.index l [c] = -1
    · rw [if_pos h2, if_pos (by simp [h2])]
    · rw [if_neg h2, if_neg (by simpa using h2)]

theorem index_one_cases (c : UInt8) : ∀ (s : List UInt8), (Lib.index s [c] = -1 ∧ c ∉ s) ∨ (∃ a b, s = a ++ c :: b ∧ c ∉ a ∧ Lib.index s [c] = (a.length : Int))
  | [] => Or.inl ⟨by simp [Lib.index], by simp⟩
  | x :: xs => by
    rw [index_one]
    by_cases h : x = c
    · exact Or.inr ⟨[], xs, by rw [h]; rfl, by simp, by rw [if_pos h]; rfl⟩
    · rw [if_neg h]
      rcases index_one_cases c xs with ⟨e, hn⟩ | ⟨a, b, es, ha, ei⟩
      · refine Or.inl ⟨by rw [if_pos e], ?_⟩
        intro hm
        rcases List.mem_cons.1 hm with e | e
        · exact h e.symm
        · exact hn e
      · refine Or.inr ⟨x :: a, b, by rw [es]; rfl, ?_, ?_⟩
        · intro hm
          rcases List.mem_cons.1 hm with e | e
          · exact h e.symm
          · exact ha e
        · rw [if_neg (by rw [ei]; omega), ei, List.length_cons]; push_cast; rfl

theorem splitK_cut (c : UInt8) : ∀ (n : Nat) (s : List UInt8), s.length < n → Lib.splitK [c] 0 (Lib.count s [c]) s = cutL c s
  | 0, s, h => absurd h (by omega)
  | n + 1, s, h => by
    rcases index_one_cases c s with ⟨e, hn⟩ | ⟨a, b, es, ha, ei⟩
    · rw [Lib.count_miss e, cutL_none c s hn]; rfl
    · have hd : s.drop (a.length + [c].length) = b := by
        rw [es]; show (a ++ c :: b).drop (a.length + 1) = b; simp
      have ht : s.take (a.length + 0) = a := by rw [es]; simp
      have hb : b.length < n := by
        have := congrArg List.length es
        simp at this; omega
      rw [Lib.count_hit (by simp) ei, hd, Nat.add_comm 1, Lib.splitK, if_neg (by rw [ei]; simp), ei]
      rw [show ((a.length : Int)).toNat = a.length from rfl, ht, hd, splitK_cut c n b hb, es, cutL_app c a b ha]

/-- strings.Split's pieces at one byte, as lists of bytes -/
theorem splitB_cut (c : UInt8) (sep s : ByteArray) (hs : sep.data.toList = [c]) :
    (Lib.splitB sep 0 (Lib.count s.data.toList sep.data.toList) s).map (·.data.toList) = cutL c s.data.toList := by
  rw [Lib.splitB_data, hs]
  exact splitK_cut c _ _ (Nat.lt_succ_self _)
end Go.Proofs.YtfdacodbiodiaaaGreatDoor

/- PLAIN: a table's text, cut at its line ends and at its spaces. -/
namespace Go.Proofs.YtfdacodbiodiaaaGreatDoor
set_option linter.unusedVariables false
set_option linter.unusedSimpArgs false

def spG : ByteArray := ⟨#[32]⟩
def nlG : ByteArray := ⟨#[10]⟩
def numG {α : Type} (cel : α → ByteArray) (w : ByteArray) (zs : List α) : ByteArray := zs.foldl (fun o z => o ++ (spG ++ cel z)) w
def lineG {α : Type} (cel : α → ByteArray) (w : ByteArray) (zs : List α) : ByteArray := numG cel w zs ++ nlG
def rowsG {α : Type} (cel : α → ByteArray) (o w : ByteArray) (xss : List (List α)) : ByteArray := xss.foldl (fun o r => o ++ lineG cel w r) o

/-- a line's words -/
def wordsG {α : Type} (cel : α → ByteArray) (w : ByteArray) (zs : List α) : List (List UInt8) := w.data.toList :: zs.map (fun z => (cel z).data.toList)

theorem dataG (a b : ByteArray) : (a ++ b).data.toList = a.data.toList ++ b.data.toList := by
  simp [ByteArray.data_append]

theorem joinL_merge (c : UInt8) (p q : List UInt8) (ps : List (List UInt8)) : joinL c ((p ++ c :: q) :: ps) = joinL c (p :: q :: ps) := by
  cases ps with
  | nil => rfl
  | cons r rs => simp [joinL]

theorem numG_data {α : Type} (cel : α → ByteArray) : ∀ (zs : List α) (w : ByteArray), (numG cel w zs).data.toList = joinL 32 (wordsG cel w zs)
  | [], w => rfl
  | z :: zs, w => by
    show (numG cel (w ++ (spG ++ cel z)) zs).data.toList = _
    rw [numG_data cel zs]
    unfold wordsG
    rw [dataG, dataG]
    show joinL 32 ((w.data.toList ++ 32 :: (cel z).data.toList) :: _) = _
    rw [joinL_merge]; rfl

theorem lineG_data {α : Type} (cel : α → ByteArray) (w : ByteArray) (zs : List α) : (lineG cel w zs).data.toList = joinL 32 (wordsG cel w zs) ++ [10] := by
  unfold lineG; rw [dataG, numG_data]; rfl

theorem rowsG_data {α : Type} (cel : α → ByteArray) (w : ByteArray) : ∀ (xss : List (List α)) (o : ByteArray), (rowsG cel o w xss).data.toList = o.data.toList ++ ((xss.map (fun r => joinL 32 (wordsG cel w r))).map (· ++ [10])).flatten
  | [], o => by simp [rowsG]
  | r :: xss, o => by
    show (rowsG cel (o ++ lineG cel w r) w xss).data.toList = _
    rw [rowsG_data cel w xss, dataG, lineG_data]
    simp

theorem joinL_lines (c : UInt8) : ∀ (ls : List (List UInt8)), joinL c (ls ++ [[]]) = (ls.map (· ++ [c])).flatten
  | [] => rfl
  | l :: ls => by
    show joinL c (l :: (ls ++ [[]])) = _
    rw [joinL_cons c l (by simp), joinL_lines c ls]; simp

theorem joinL_free (c d : UInt8) (hcd : c ≠ d) : ∀ (ps : List (List UInt8)), (∀ p ∈ ps, c ∉ p) → c ∉ joinL d ps
  | [], _ => by simp [joinL]
  | [p], h => h p (List.mem_cons_self ..)
  | p :: q :: ps, h => by
    rw [joinL_cons d p (by simp)]
    intro hm
    rcases List.mem_append.1 hm with e | e
    · exact h p (List.mem_cons_self ..) e
    · rcases List.mem_cons.1 e with e | e
      · exact hcd e
      · exact joinL_free c d hcd (q :: ps) (fun r hr => h r (List.mem_cons_of_mem _ hr)) e

/-- A TABLE's TEXT, CUT: its head line, its rows' lines, and an empty last piece. -/
theorem table_cut {α β : Type} (hel : β → ByteArray) (cel : α → ByteArray) (h w : ByteArray) (ns : List β) (xss : List (List α))
    (hh : (10 : UInt8) ∉ h.data.toList) (hw : (10 : UInt8) ∉ w.data.toList)
    (hn : ∀ z ∈ ns, (10 : UInt8) ∉ (hel z).data.toList) (hc : ∀ r ∈ xss, ∀ z ∈ r, (10 : UInt8) ∉ (cel z).data.toList) :
    cutL 10 (rowsG cel (lineG hel h ns) w xss).data.toList = joinL 32 (wordsG hel h ns) :: (xss.map (fun r => joinL 32 (wordsG cel w r)) ++ [[]]) := by
  have e : (rowsG cel (lineG hel h ns) w xss).data.toList = joinL 10 ((joinL 32 (wordsG hel h ns) :: xss.map (fun r => joinL 32 (wordsG cel w r))) ++ [[]]) := by
    rw [joinL_lines, rowsG_data, lineG_data]; simp
  rw [e, cutL_joinL 10 _ (by simp)]
  · rfl
  · intro p hp
    have free : ∀ {γ : Type} (cl : γ → ByteArray) (u : ByteArray) (zs : List γ), (10 : UInt8) ∉ u.data.toList → (∀ z ∈ zs, (10 : UInt8) ∉ (cl z).data.toList) → (10 : UInt8) ∉ joinL 32 (wordsG cl u zs) := by
      intro γ cl u zs h1 h2
      refine joinL_free 10 32 (by decide) _ ?_
      intro q hq
      unfold wordsG at hq
      rcases List.mem_cons.1 hq with e | e
      · rw [e]; exact h1
      · obtain ⟨z, hz, ez⟩ := List.mem_map.1 e
        rw [← ez]; exact h2 z hz
    rcases List.mem_append.1 hp with e | e
    · rcases List.mem_cons.1 e with e | e
      · rw [e]; exact free hel h ns hh hn
      · obtain ⟨r, hr, er⟩ := List.mem_map.1 e
        rw [← er]; exact free cel w r hw (hc r hr)
    · have : p = [] := by simpa using e
      rw [this]; simp

/-- a line, cut at its spaces -/
theorem line_cut {α : Type} (cel : α → ByteArray) (w : ByteArray) (zs : List α) (hw : (32 : UInt8) ∉ w.data.toList) (hc : ∀ z ∈ zs, (32 : UInt8) ∉ (cel z).data.toList) :
    cutL 32 (joinL 32 (wordsG cel w zs)) = wordsG cel w zs := by
  refine cutL_joinL 32 _ (by simp [wordsG]) ?_
  intro p hp
  unfold wordsG at hp
  rcases List.mem_cons.1 hp with e | e
  · rw [e]; exact hw
  · obtain ⟨z, hz, ez⟩ := List.mem_map.1 e
    rw [← ez]; exact hc z hz
end Go.Proofs.YtfdacodbiodiaaaGreatDoor

/- PLAIN: the text of a table, read back: strictly (the reference) and loosely (the program). Partial automata. -/
namespace Go.Proofs.YtfdacodbiodiaaaGreatDoor
set_option linter.unusedVariables false
set_option linter.unusedSimpArgs false

def decG (z : Int) : ByteArray := if z < 10 then ⟨#[UInt8.ofNat (48 + z.toNat)]⟩ else ⟨#[49, 48]⟩
def celG (z : Int) : ByteArray := if z < 0 then ⟨#[46]⟩ else decG z
def parG : ByteArray := ⟨#[112, 97, 114, 116, 105, 97, 108]⟩
def autG : ByteArray := ⟨#[97, 117, 116, 111, 109, 97, 116, 111, 110]⟩
def letG : ByteArray := ⟨#[108, 101, 116, 116, 101, 114]⟩

/-- the reference's number -/
def digS (n : Int) : List UInt8 → Option Int
  | [] => some n
  | c :: r => if c < 48 ∨ 57 < c then none else digS (n * 10 + ((c.toNat - 48 : Nat) : Int)) r
def numS (l : List UInt8) : Option Int := if l.length < 1 ∨ 9 < l.length ∨ (l.head? = some 48 ∧ 1 < l.length) then none else digS 0 l
/-- the program's number: ParseInt's, whatever the error -/
def numL (l : List UInt8) : Int := match Lib.parseIntB 64 l with
  | .ok v => v
  | .range => Lib.intSat 64 l
  | _ => 0
/-- the reference's cell of a partial automaton -/
def celS (l : List UInt8) : Option Int := if l = [46] then some (-1) else numS l
/-- the program's -/
def celL (l : List UInt8) : Int := match Lib.parseIntB 64 l with
  | .ok v => v
  | _ => -1

theorem dec_read : ∀ n : Fin 11, numS (decG (n.val : Int)).data.toList = some (n.val : Int) ∧ numL (decG (n.val : Int)).data.toList = (n.val : Int)
    ∧ celS (celG (n.val : Int)).data.toList = some (n.val : Int) ∧ celL (celG (n.val : Int)).data.toList = (n.val : Int)
    ∧ (10 : UInt8) ∉ (decG (n.val : Int)).data.toList ∧ (32 : UInt8) ∉ (decG (n.val : Int)).data.toList
    ∧ (10 : UInt8) ∉ (celG (n.val : Int)).data.toList ∧ (32 : UInt8) ∉ (celG (n.val : Int)).data.toList := by decide +kernel
theorem dot_read : celS (celG (-1)).data.toList = some (-1) ∧ celL (celG (-1)).data.toList = -1 ∧ (10 : UInt8) ∉ (celG (-1)).data.toList ∧ (32 : UInt8) ∉ (celG (-1)).data.toList := by decide +kernel

theorem fin_of {z : Int} (h0 : 0 ≤ z) (h1 : z ≤ 10) : ∃ n : Fin 11, z = (n.val : Int) := ⟨⟨z.toNat, by omega⟩, by show z = ((z.toNat : Nat) : Int); omega⟩

structure NumOk (z : Int) : Prop where
  s : numS (decG z).data.toList = some z
  l : numL (decG z).data.toList = z
  a : (10 : UInt8) ∉ (decG z).data.toList
  b : (32 : UInt8) ∉ (decG z).data.toList
theorem num_ok {z : Int} (h0 : 0 ≤ z) (h1 : z ≤ 10) : NumOk z := by
  obtain ⟨n, rfl⟩ := fin_of h0 h1
  obtain ⟨a, b, c, d, e, f, g, h⟩ := dec_read n
  exact ⟨a, b, e, f⟩
structure CelOk (z : Int) : Prop where
  s : celS (celG z).data.toList = some z
  l : celL (celG z).data.toList = z
  a : (10 : UInt8) ∉ (celG z).data.toList
  b : (32 : UInt8) ∉ (celG z).data.toList
theorem cel_ok {z : Int} (h0 : -1 ≤ z) (h1 : z ≤ 10) : CelOk z := by
  by_cases hz : z < 0
  · have : z = -1 := by omega
    subst this
    obtain ⟨a, b, c, d⟩ := dot_read
    exact ⟨a, b, c, d⟩
  · obtain ⟨n, rfl⟩ := fin_of (by omega) h1
    obtain ⟨a, b, c, d, e, f, g, h⟩ := dec_read n
    exact ⟨c, d, g, h⟩

/-- all of a list, or nothing -/
def allS {α β : Type} (f : α → Option β) : List α → Option (List β)
  | [] => some []
  | x :: xs => match f x with
    | none => none
    | some y => match allS f xs with
      | none => none
      | some ys => some (y :: ys)
theorem allS_map {α β γ : Type} (f : α → Option β) (g : γ → α) (h : γ → β) : ∀ (zs : List γ), (∀ z ∈ zs, f (g z) = some (h z)) → allS f (zs.map g) = some (zs.map h)
  | [], _ => rfl
  | z :: zs, e => by
    rw [List.map_cons, allS, e z (List.mem_cons_self ..)]
    simp only []
    rw [allS_map f g h zs (fun y hy => e y (List.mem_cons_of_mem _ hy))]; rfl

/-- THE REFERENCE's lines: the first number and the words of the lines between the first and the last. -/
def linesS (name : List UInt8) (t : List UInt8) : Option (Int × List (List (List UInt8))) :=
  match allS numS ((cutL 32 ((cutL 10 t).headD [])).drop 1) with
  | some [a, b] =>
    if (cutL 32 ((cutL 10 t).headD [])).headD [] = name ∧ b = ((cutL 10 t).length : Int) - 2
      ∧ ∀ x ∈ (((cutL 10 t).drop 1).dropLast).map (cutL 32), x.headD [] = letG.data.toList then some (a, (((cutL 10 t).drop 1).dropLast).map (cutL 32)) else none
  | _ => none
/-- THE PROGRAM's lines: the first number or 0, and the words behind the first of each line that is not empty. -/
def linesL (t : List UInt8) : Int × List (List (List UInt8)) :=
  ((((cutL 32 ((cutL 10 t).headD [])).drop 1).map numL).headD 0, (((cutL 10 t).drop 1).filter (fun l => decide (l ≠ []))).map (fun l => (cutL 32 l).drop 1))

def partS (t : List UInt8) : Option (Int × List (List Int)) := match linesS parG.data.toList t with
  | none => none
  | some (a, ws) => match allS (fun w => allS celS (w.drop 1)) ws with
    | none => none
    | some xss => some (a, xss)
def partL (t : List UInt8) : Int × List (List Int) := ((linesL t).1, (linesL t).2.map (fun w => w.map celL))

/-- the table's text cut, in both readings -/
theorem table_read {α : Type} (cel : α → ByteArray) (name : ByteArray) (st : Int) (xss : List (List α))
    (hs0 : 0 ≤ st) (hs1 : st ≤ 10) (hx : xss.length ≤ 10) (h10 : (10 : UInt8) ∉ name.data.toList) (h32 : (32 : UInt8) ∉ name.data.toList)
    (hc10 : ∀ r ∈ xss, ∀ z ∈ r, (10 : UInt8) ∉ (cel z).data.toList) (hc32 : ∀ r ∈ xss, ∀ z ∈ r, (32 : UInt8) ∉ (cel z).data.toList) :
    linesS name.data.toList (rowsG cel (lineG decG name [st, xss.length]) letG xss).data.toList = some (st, xss.map (wordsG cel letG))
    ∧ linesL (rowsG cel (lineG decG name [st, xss.length]) letG xss).data.toList = (st, xss.map (fun r => r.map (fun z => (cel z).data.toList))) := by
  have o1 := num_ok hs0 hs1
  have o2 := num_ok (z := (xss.length : Int)) (by omega) (by omega)
  have hcut := table_cut decG cel name letG [st, (xss.length : Int)] xss h10 (by decide +kernel)
    (by intro z hz; rcases List.mem_cons.1 hz with e | e
        · rw [e]; exact o1.a
        · have : z = (xss.length : Int) := by simpa using e
          rw [this]; exact o2.a) hc10
  have hhead : cutL 32 (joinL 32 (wordsG decG name [st, (xss.length : Int)])) = wordsG decG name [st, (xss.length : Int)] :=
    line_cut decG name _ h32 (by
      intro z hz; rcases List.mem_cons.1 hz with e | e
      · rw [e]; exact o1.b
      · have : z = (xss.length : Int) := by simpa using e
        rw [this]; exact o2.b)
  have hrow : ∀ r ∈ xss, cutL 32 (joinL 32 (wordsG cel letG r)) = wordsG cel letG r := fun r hr => line_cut cel letG r (by decide +kernel) (hc32 r hr)
  have hmid : ((xss.map (fun r => joinL 32 (wordsG cel letG r))).map (cutL 32)) = xss.map (wordsG cel letG) := by
    rw [List.map_map]
    exact List.map_congr_left (fun r hr => hrow r hr)
  refine ⟨?_, ?_⟩
  · unfold linesS
    rw [hcut, List.headD_cons, hhead]
    have e1 : allS numS ((wordsG decG name [st, (xss.length : Int)]).drop 1) = some [st, (xss.length : Int)] := by
      show allS numS ([st, (xss.length : Int)].map (fun z => (decG z).data.toList)) = _
      rw [allS_map numS (fun z => (decG z).data.toList) id [st, (xss.length : Int)] (by
        intro z hz; rcases List.mem_cons.1 hz with e | e
        · rw [e]; exact o1.s
        · have : z = (xss.length : Int) := by simpa using e
          rw [this]; exact o2.s)]
      rfl
    rw [e1]
    simp only [List.drop_succ_cons, List.drop_zero, List.dropLast_concat]
    rw [hmid, if_pos]
    refine ⟨rfl, ?_, ?_⟩
    · simp; omega
    · intro x hx
      obtain ⟨r, hr, er⟩ := List.mem_map.1 hx
      rw [← er]; rfl
  · unfold linesL
    rw [hcut, List.headD_cons, hhead]
    simp only [List.drop_succ_cons, List.drop_zero]
    refine Prod.ext ?_ ?_
    · show ([st, (xss.length : Int)].map (fun z => numL (decG z).data.toList)).headD 0 = st
      show numL (decG st).data.toList = st
      exact o1.l
    · show ((xss.map (fun r => joinL 32 (wordsG cel letG r)) ++ [[]]).filter (fun l => decide (l ≠ []))).map (fun l => (cutL 32 l).drop 1) = _
      have hne : ∀ l ∈ xss.map (fun r => joinL 32 (wordsG cel letG r)), decide (l ≠ []) = true := by
        intro l hl
        obtain ⟨r, hr, er⟩ := List.mem_map.1 hl
        rw [← er]
        cases r with
        | nil => simp [wordsG, joinL, letG]
        | cons z zs => simp [wordsG, joinL, letG]
      rw [List.filter_append, List.filter_eq_self.2 hne]
      rw [show [([] : List UInt8)].filter (fun l => decide (l ≠ [])) = [] from rfl, List.append_nil, List.map_map]
      refine List.map_congr_left (fun r hr => ?_)
      show (cutL 32 (joinL 32 (wordsG cel letG r))).drop 1 = _
      rw [hrow r hr]; rfl

/-- PARTIAL AUTOMATA: a good table's text is read back, strictly and loosely. -/
theorem part_read (st : Int) (xss : List (List Int)) (hs0 : 0 ≤ st) (hs1 : st ≤ 10) (hx : xss.length ≤ 10) (hc : ∀ r ∈ xss, ∀ z ∈ r, -1 ≤ z ∧ z ≤ 10) :
    partS (rowsG celG (lineG decG parG [st, xss.length]) letG xss).data.toList = some (st, xss)
    ∧ partL (rowsG celG (lineG decG parG [st, xss.length]) letG xss).data.toList = (st, xss) := by
  have ok : ∀ r ∈ xss, ∀ z ∈ r, CelOk z := fun r hr z hz => cel_ok (hc r hr z hz).1 (hc r hr z hz).2
  obtain ⟨h1, h2⟩ := table_read celG parG st xss hs0 hs1 hx (by decide +kernel) (by decide +kernel) (fun r hr z hz => (ok r hr z hz).a) (fun r hr z hz => (ok r hr z hz).b)
  refine ⟨?_, ?_⟩
  · unfold partS
    rw [h1]
    simp only []
    rw [allS_map (fun w : List (List UInt8) => allS celS (w.drop 1)) (wordsG celG letG) id xss (by
      intro r hr
      show allS celS (r.map (fun z => (celG z).data.toList)) = _
      rw [allS_map celS (fun z => (celG z).data.toList) id r (fun z hz => (ok r hr z hz).s), List.map_id]; rfl)]
    simp
  · unfold partL
    rw [h2]
    refine Prod.ext rfl ?_
    show (xss.map (fun r => r.map (fun z => (celG z).data.toList))).map (fun w => w.map celL) = xss
    rw [List.map_map]
    conv => rhs; rw [← List.map_id xss]
    refine List.map_congr_left (fun r hr => ?_)
    show (r.map (fun z => (celG z).data.toList)).map celL = r
    rw [List.map_map]
    conv => rhs; rw [← List.map_id r]
    exact List.map_congr_left (fun z hz => (ok r hr z hz).l)
end Go.Proofs.YtfdacodbiodiaaaGreatDoor

/- PLAIN: the text of an automaton: read back, and fixed by what a strict reading finds. -/
namespace Go.Proofs.YtfdacodbiodiaaaGreatDoor
set_option linter.unusedVariables false
set_option linter.unusedSimpArgs false

theorem digS_ge : ∀ (l : List UInt8) (n z : Int), 0 ≤ n → digS n l = some z → n ≤ z
  | [], n, z, h0, h => by
    have : n = z := by simpa [digS] using h
    omega
  | c :: r, n, z, h0, h => by
    unfold digS at h
    split at h
    · cases h
    · have := digS_ge r _ z (by omega) h
      omega

theorem digS_ge_ten (c : UInt8) (r : List UInt8) (n z : Int) (h0 : 0 ≤ n) (h : digS n (c :: r) = some z) : n * 10 + ((c.toNat - 48 : Nat) : Int) ≤ z ∧ 48 ≤ c ∧ c ≤ 57 := by
  unfold digS at h
  split at h
  · cases h
  · rename_i hc
    refine ⟨digS_ge r _ z (by omega) h, ?_, ?_⟩
    · exact Nat.le_of_not_lt (fun e => hc (Or.inl e))
    · exact Nat.le_of_not_lt (fun e => hc (Or.inr e))

theorem numS_dec {l : List UInt8} {z : Int} (h : numS l = some z) : 0 ≤ z ∧ (z ≤ 10 → l = (decG z).data.toList) := by
  unfold numS at h
  split at h
  · cases h
  · rename_i hn
    have hge := digS_ge l 0 z (by omega) h
    refine ⟨hge, fun hz => ?_⟩
    cases l with
    | nil => exact absurd (Or.inl (by simp)) hn
    | cons c r =>
      obtain ⟨h1, h2, h3⟩ := digS_ge_ten c r 0 z (by omega) h
      have h2' : 48 ≤ c.toNat := h2
      have h3' : c.toNat ≤ 57 := h3
      cases r with
      | nil =>
        have e : z = ((c.toNat - 48 : Nat) : Int) := by
          unfold digS at h
          split at h
          · cases h
          · have : (0 : Int) * 10 + ((c.toNat - 48 : Nat) : Int) = z := by simpa [digS] using h
            omega
        have ez : 48 + z.toNat = c.toNat := by omega
        unfold decG
        rw [if_pos (by omega), ez]
        simp
      | cons d r =>
        have hc0 : c ≠ 48 := fun e => hn (Or.inr (Or.inr ⟨by rw [e]; rfl, by simp⟩))
        have hc1 : c.toNat ≠ 48 := fun e => hc0 (UInt8.toNat_inj.1 e)
        have hd : digS (0 * 10 + ((c.toNat - 48 : Nat) : Int)) (d :: r) = some z := by
          unfold digS at h
          split at h
          · cases h
          · exact h
        obtain ⟨g1, g2, g3⟩ := digS_ge_ten d r _ z (by omega) hd
        have g2' : 48 ≤ d.toNat := g2
        cases r with
        | nil =>
          have e : (0 * 10 + ((c.toNat - 48 : Nat) : Int)) * 10 + ((d.toNat - 48 : Nat) : Int) = z := by
            unfold digS at hd
            split at hd
            · cases hd
            · simpa [digS] using hd
          have ec : c = 49 := UInt8.toNat_inj.1 (show c.toNat = 49 by omega)
          have ed : d = 48 := UInt8.toNat_inj.1 (show d.toNat = 48 by omega)
          have ez : z = 10 := by omega
          subst ec; subst ed; subst ez
          decide +kernel
        | cons f r =>
          have hf : digS ((0 * 10 + ((c.toNat - 48 : Nat) : Int)) * 10 + ((d.toNat - 48 : Nat) : Int)) (f :: r) = some z := by
            unfold digS at hd
            split at hd
            · cases hd
            · exact hd
          obtain ⟨k1, k2, k3⟩ := digS_ge_ten f r _ z (by omega) hf
          omega

theorem allS_dec : ∀ (ws : List (List UInt8)) (zs : List Int), allS numS ws = some zs → (∀ z ∈ zs, z ≤ 10) → ws = zs.map (fun z => (decG z).data.toList)
  | [], zs, h, _ => by
    have : zs = [] := by simpa [allS] using h.symm
    subst this; rfl
  | x :: xs, zs, h, hz => by
    rw [allS] at h
    cases e : numS x with
    | none => rw [e] at h; cases h
    | some y =>
      rw [e] at h
      simp only [] at h
      cases e2 : allS numS xs with
      | none => rw [e2] at h; cases h
      | some ys =>
        rw [e2] at h
        have : zs = y :: ys := by simpa using h.symm
        subst this
        rw [List.map_cons, ← allS_dec xs ys e2 (fun z hz' => hz z (List.mem_cons_of_mem _ hz')), ← (numS_dec e).2 (hz y (List.mem_cons_self ..))]

theorem getLast_snoc {α : Type} (h : α) (ls : List α) (z : α) (p : h :: (ls ++ [z]) ≠ []) : (h :: (ls ++ [z])).getLast p = z := by
  rw [List.getLast_cons (by simp)]; simp

theorem allS_pos : ∀ (ws : List (List UInt8)) (zs : List Int), allS numS ws = some zs → ∀ z ∈ zs, 0 ≤ z
  | [], zs, h => by
    have : zs = [] := by simpa [allS] using h.symm
    subst this; simp
  | x :: xs, zs, h => by
    rw [allS] at h
    cases e : numS x with
    | none => rw [e] at h; cases h
    | some y =>
      rw [e] at h
      simp only [] at h
      cases e2 : allS numS xs with
      | none => rw [e2] at h; cases h
      | some ys =>
        rw [e2] at h
        have : zs = y :: ys := by simpa using h.symm
        subst this
        intro z hz
        rcases List.mem_cons.1 hz with e3 | e3
        · rw [e3]; exact (numS_dec e).1
        · exact allS_pos xs ys e2 z e3

def rowA (l : List UInt8) : Option (List Int) := if (cutL 32 l).headD [] = letG.data.toList then allS numS ((cutL 32 l).drop 1) else none
def autS (t : List UInt8) : Option (Int × List (List Int)) :=
  match allS numS ((cutL 32 ((cutL 10 t).headD [])).drop 1) with
  | some [a, b] =>
    if (cutL 32 ((cutL 10 t).headD [])).headD [] = autG.data.toList ∧ (cutL 10 t).getLast (cutL_ne 10 t) = [] ∧ ((cutL 10 t).length : Int) = b + 2 then
      match allS rowA (((cutL 10 t).drop 1).dropLast) with
      | none => none
      | some xss => some (a, xss)
    else none
  | _ => none
def autL (t : List UInt8) : Int × List (List Int) := ((linesL t).1, (linesL t).2.map (fun w => w.map numL))

/-- AN AUTOMATON's TEXT is read back, strictly and loosely. -/
theorem auto_read (st : Int) (xss : List (List Int)) (hs0 : 0 ≤ st) (hs1 : st ≤ 10) (hx : xss.length ≤ 10) (hc : ∀ r ∈ xss, ∀ z ∈ r, 0 ≤ z ∧ z ≤ 10) :
    autS (rowsG decG (lineG decG autG [st, xss.length]) letG xss).data.toList = some (st, xss)
    ∧ autL (rowsG decG (lineG decG autG [st, xss.length]) letG xss).data.toList = (st, xss) := by
  have ok : ∀ r ∈ xss, ∀ z ∈ r, NumOk z := fun r hr z hz => num_ok (hc r hr z hz).1 (hc r hr z hz).2
  have h10 : ∀ r ∈ xss, ∀ z ∈ r, (10 : UInt8) ∉ (decG z).data.toList := fun r hr z hz => (ok r hr z hz).a
  have h32 : ∀ r ∈ xss, ∀ z ∈ r, (32 : UInt8) ∉ (decG z).data.toList := fun r hr z hz => (ok r hr z hz).b
  obtain ⟨h1, h2⟩ := table_read decG autG st xss hs0 hs1 hx (by decide +kernel) (by decide +kernel) h10 h32
  have o1 := num_ok hs0 hs1
  have o2 := num_ok (z := (xss.length : Int)) (by omega) (by omega)
  have two : ∀ (P : Int → Prop), P st → P (xss.length : Int) → ∀ z ∈ [st, (xss.length : Int)], P z := by
    intro P p1 p2 z hz
    rcases List.mem_cons.1 hz with e | e
    · rw [e]; exact p1
    · have : z = (xss.length : Int) := by simpa using e
      rw [this]; exact p2
  have hcut := table_cut decG decG autG letG [st, (xss.length : Int)] xss (by decide +kernel) (by decide +kernel) (two (fun z => (10 : UInt8) ∉ (decG z).data.toList) o1.a o2.a) h10
  have hhead : cutL 32 (joinL 32 (wordsG decG autG [st, (xss.length : Int)])) = wordsG decG autG [st, (xss.length : Int)] :=
    line_cut decG autG _ (by decide +kernel) (two (fun z => (32 : UInt8) ∉ (decG z).data.toList) o1.b o2.b)
  refine ⟨?_, ?_⟩
  · unfold autS
    simp only [hcut, List.headD_cons, hhead]
    have e1 : allS numS ((wordsG decG autG [st, (xss.length : Int)]).drop 1) = some [st, (xss.length : Int)] := by
      show allS numS ([st, (xss.length : Int)].map (fun z => (decG z).data.toList)) = _
      rw [allS_map numS (fun z => (decG z).data.toList) id [st, (xss.length : Int)] (two _ o1.s o2.s)]
      rfl
    rw [e1]
    simp only [List.drop_succ_cons, List.drop_zero, List.dropLast_concat]
    rw [if_pos (show _ ∧ _ ∧ _ from ?_)]
    rotate_left
    · refine ⟨rfl, ?_, ?_⟩
      · exact getLast_snoc _ _ _ _
      · simp; omega
    rw [allS_map rowA (fun r => joinL 32 (wordsG decG letG r)) id xss (by
      intro r hr
      unfold rowA
      rw [line_cut decG letG r (by decide +kernel) (h32 r hr), if_pos (show (wordsG decG letG r).headD [] = letG.data.toList from rfl)]
      show allS numS (r.map (fun z => (decG z).data.toList)) = _
      rw [allS_map numS (fun z => (decG z).data.toList) id r (fun z hz => (ok r hr z hz).s), List.map_id]; rfl)]
    simp
  · unfold autL
    rw [h2]
    refine Prod.ext rfl ?_
    show (xss.map (fun r => r.map (fun z => (decG z).data.toList))).map (fun w => w.map numL) = xss
    rw [List.map_map]
    conv => rhs; rw [← List.map_id xss]
    refine List.map_congr_left (fun r hr => ?_)
    show (r.map (fun z => (decG z).data.toList)).map numL = r
    rw [List.map_map]
    conv => rhs; rw [← List.map_id r]
    exact List.map_congr_left (fun z hz => (ok r hr z hz).l)

theorem head_join (c : UInt8) (l : List UInt8) (n : List UInt8) (h : (cutL c l).headD [] = n) : l = joinL c (n :: (cutL c l).drop 1) := by
  have e := joinL_cutL c l
  cases hc : cutL c l with
  | nil => exact absurd hc (cutL_ne c l)
  | cons p ps =>
    rw [hc] at h e
    have : p = n := h
    subst this
    rw [← e]; rfl

theorem rows_dec : ∀ (ls : List (List UInt8)) (xss : List (List Int)), allS rowA ls = some xss → (∀ r ∈ xss, ∀ z ∈ r, z ≤ 10) → ls = xss.map (fun r => joinL 32 (wordsG decG letG r))
  | [], xss, h, _ => by
    have : xss = [] := by simpa [allS] using h.symm
    subst this; rfl
  | x :: xs, xss, h, hz => by
    rw [allS] at h
    cases e : rowA x with
    | none => rw [e] at h; cases h
    | some y =>
      rw [e] at h
      simp only [] at h
      cases e2 : allS rowA xs with
      | none => rw [e2] at h; cases h
      | some ys =>
        rw [e2] at h
        have : xss = y :: ys := by simpa using h.symm
        subst this
        rw [List.map_cons, ← rows_dec xs ys e2 (fun r hr => hz r (List.mem_cons_of_mem _ hr))]
        have hx : x = joinL 32 (wordsG decG letG y) := by
          unfold rowA at e
          split at e
          · rename_i hh
            have h3 := allS_dec _ _ e (hz y (List.mem_cons_self ..))
            have h4 := head_join 32 x _ hh
            rw [h3] at h4
            exact h4
          · cases e
        rw [← hx]

/-- what the strict reading finds fixes the text -/
theorem auto_text (t : List UInt8) (st : Int) (xss : List (List Int)) (h : autS t = some (st, xss)) (hs1 : st ≤ 10) (hx : xss.length ≤ 10) (hc : ∀ r ∈ xss, ∀ z ∈ r, z ≤ 10) :
    t = (rowsG decG (lineG decG autG [st, xss.length]) letG xss).data.toList := by
  unfold autS at h
  cases e : allS numS ((cutL 32 ((cutL 10 t).headD [])).drop 1) with
  | none => rw [e] at h; cases h
  | some ns =>
    rw [e] at h
    rcases ns with _ | ⟨a, _ | ⟨b, _ | ⟨c, ns⟩⟩⟩
    · cases h
    · cases h
    · simp only [] at h
      split at h
      · rename_i hh
        obtain ⟨hn, hl, hb⟩ := hh
        cases e2 : allS rowA (((cutL 10 t).drop 1).dropLast) with
        | none => rw [e2] at h; cases h
        | some yss =>
          rw [e2] at h
          have h' : (a, yss) = (st, xss) := by simpa using h
          obtain ⟨rfl, rfl⟩ := Prod.mk.inj h'
          have h3 := rows_dec _ _ e2 hc
          have hlen : ((cutL 10 t).drop 1).dropLast.length = yss.length := by rw [h3, List.length_map]
          rw [List.length_dropLast, List.length_drop] at hlen
          have hb0 : 0 ≤ b := allS_pos _ _ e b (by simp)
          have hbx : b = (yss.length : Int) := by omega
          subst hbx
          have h4 := allS_dec _ _ e (by
            intro z hz
            rcases List.mem_cons.1 hz with e | e
            · rw [e]; exact hs1
            · have : z = (yss.length : Int) := by simpa using e
              omega)
          have h5 := head_join 32 _ _ hn
          rw [h4] at h5
          have hj := joinL_cutL 10 t
          have hd : cutL 10 t = (cutL 10 t).headD [] :: (((cutL 10 t).drop 1).dropLast ++ [[]]) := by
            cases hc' : cutL 10 t with
            | nil => exact absurd hc' (cutL_ne 10 t)
            | cons p ps =>
              simp only [hc'] at hl hb
              have hps : ps ≠ [] := by
                intro e0; rw [e0] at hb; simp at hb; omega
              rw [List.getLast_cons hps] at hl
              show p :: ps = p :: (ps.dropLast ++ [[]])
              rw [← hl, List.dropLast_concat_getLast hps]
          rw [hd, h3] at hj
          rw [← hj, rowsG_data, lineG_data]
          have : ∀ (x : List UInt8) (ys : List (List UInt8)), x :: (ys ++ [[]]) = (x :: ys) ++ [[]] := fun _ _ => rfl
          rw [this, joinL_lines]
          rw [List.map_cons, List.flatten_cons]
          congr 1
          rw [h5]; rfl
      · cases h
    · cases h
end Go.Proofs.YtfdacodbiodiaaaGreatDoor

/- PLAIN: the text of a choice, read back strictly and loosely. -/
namespace Go.Proofs.YtfdacodbiodiaaaGreatDoor
set_option linter.unusedVariables false
set_option linter.unusedSimpArgs false

def choG : ByteArray := ⟨#[99, 104, 111, 105, 99, 101]⟩
def setG (zs : List Int) : ByteArray := if zs.length = 0 then ⟨#[46]⟩ else ⟨(joinL 44 (zs.map (fun z => (decG z).data.toList))).toArray⟩
/-- the reference's set -/
def setS (l : List UInt8) : Option (List Int) := if l = [46] then some [] else allS numS (cutL 44 l)
/-- the program's: the numbers that ParseInt takes -/
def okL (l : List UInt8) : Option Int := match Lib.parseIntB 64 l with
  | .ok v => some v
  | _ => none
def setL (l : List UInt8) : List Int := (cutL 44 l).filterMap okL

theorem dec_read2 : ∀ n : Fin 11, okL (decG (n.val : Int)).data.toList = some (n.val : Int) ∧ (44 : UInt8) ∉ (decG (n.val : Int)).data.toList ∧ (46 : UInt8) ∉ (decG (n.val : Int)).data.toList := by decide +kernel
structure NumOk2 (z : Int) : Prop extends NumOk z where
  o : okL (decG z).data.toList = some z
  c : (44 : UInt8) ∉ (decG z).data.toList
  d : (46 : UInt8) ∉ (decG z).data.toList
theorem num_ok2 {z : Int} (h0 : 0 ≤ z) (h1 : z ≤ 10) : NumOk2 z := by
  have h := num_ok h0 h1
  obtain ⟨n, rfl⟩ := fin_of h0 h1
  obtain ⟨a, b, c⟩ := dec_read2 n
  exact ⟨h, a, b, c⟩

theorem setG_data {zs : List Int} (h : zs ≠ []) : (setG zs).data.toList = joinL 44 (zs.map (fun z => (decG z).data.toList)) := by
  have : ¬ zs.length = 0 := fun e => h (List.length_eq_zero_iff.1 e)
  unfold setG; rw [if_neg this]

theorem filterMap_map {α β γ : Type} (f : α → Option β) (g : γ → α) (h : γ → β) : ∀ (zs : List γ), (∀ z ∈ zs, f (g z) = some (h z)) → (zs.map g).filterMap f = zs.map h
  | [], _ => rfl
  | z :: zs, e => by
    rw [List.map_cons, List.filterMap_cons_some (e z (List.mem_cons_self ..)), filterMap_map f g h zs (fun y hy => e y (List.mem_cons_of_mem _ hy))]; rfl

structure SetOk (zs : List Int) : Prop where
  s : setS (setG zs).data.toList = some zs
  l : setL (setG zs).data.toList = zs
  a : (10 : UInt8) ∉ (setG zs).data.toList
  b : (32 : UInt8) ∉ (setG zs).data.toList
theorem dot_set : SetOk [] := by
  have h : setS (setG []).data.toList = some [] ∧ setL (setG []).data.toList = [] ∧ (10 : UInt8) ∉ (setG []).data.toList ∧ (32 : UInt8) ∉ (setG []).data.toList := by decide +kernel
  exact ⟨h.1, h.2.1, h.2.2.1, h.2.2.2⟩
theorem set_ok {zs : List Int} (h : ∀ z ∈ zs, 0 ≤ z ∧ z ≤ 10) : SetOk zs := by
  by_cases hz : zs = []
  · rw [hz]; exact dot_set
  · have ok : ∀ z ∈ zs, NumOk2 z := fun z hz => num_ok2 (h z hz).1 (h z hz).2
    have free : ∀ (c : UInt8), c ≠ 44 → (∀ z ∈ zs, c ∉ (decG z).data.toList) → c ∉ joinL 44 (zs.map (fun z => (decG z).data.toList)) := by
      intro c hc hf
      refine joinL_free c 44 hc _ ?_
      intro p hp
      obtain ⟨z, hz', e⟩ := List.mem_map.1 hp
      rw [← e]; exact hf z hz'
    have hcut : cutL 44 (joinL 44 (zs.map (fun z => (decG z).data.toList))) = zs.map (fun z => (decG z).data.toList) := by
      refine cutL_joinL 44 _ (by simpa using hz) ?_
      intro p hp
      obtain ⟨z, hz', e⟩ := List.mem_map.1 hp
      rw [← e]; exact (ok z hz').c
    refine ⟨?_, ?_, ?_, ?_⟩
    · rw [setG_data hz]; unfold setS
      rw [if_neg, hcut, allS_map numS (fun z => (decG z).data.toList) id zs (fun z hz => (ok z hz).s), List.map_id]
      intro e
      exact free 46 (by decide) (fun z hz => (ok z hz).d) (by rw [e]; simp)
    · rw [setG_data hz]; unfold setL
      rw [hcut, filterMap_map okL (fun z => (decG z).data.toList) id zs (fun z hz => (ok z hz).o), List.map_id]
    · rw [setG_data hz]; exact free 10 (by decide) (fun z hz => (ok z hz).a)
    · rw [setG_data hz]; exact free 32 (by decide) (fun z hz => (ok z hz).b)

def choS (t : List UInt8) : Option (Int × List (List (List Int))) := match linesS choG.data.toList t with
  | none => none
  | some (a, ws) => match allS (fun w => allS setS (w.drop 1)) ws with
    | none => none
    | some xss => some (a, xss)
def choL (t : List UInt8) : Int × List (List (List Int)) := ((linesL t).1, (linesL t).2.map (fun w => w.map setL))

/-- CHOICES: a good table's text is read back, strictly and loosely. -/
theorem cho_read (st : Int) (xss : List (List (List Int))) (hs0 : 0 ≤ st) (hs1 : st ≤ 10) (hx : xss.length ≤ 10) (hc : ∀ r ∈ xss, ∀ s ∈ r, ∀ z ∈ s, 0 ≤ z ∧ z ≤ 10) :
    choS (rowsG setG (lineG decG choG [st, xss.length]) letG xss).data.toList = some (st, xss)
    ∧ choL (rowsG setG (lineG decG choG [st, xss.length]) letG xss).data.toList = (st, xss) := by
  have ok : ∀ r ∈ xss, ∀ z ∈ r, SetOk z := fun r hr z hz => set_ok (hc r hr z hz)
  obtain ⟨h1, h2⟩ := table_read setG choG st xss hs0 hs1 hx (by decide +kernel) (by decide +kernel) (fun r hr z hz => (ok r hr z hz).a) (fun r hr z hz => (ok r hr z hz).b)
  refine ⟨?_, ?_⟩
  · unfold choS
    rw [h1]
    simp only []
    rw [allS_map (fun w : List (List UInt8) => allS setS (w.drop 1)) (wordsG setG letG) id xss (by
      intro r hr
      show allS setS (r.map (fun z => (setG z).data.toList)) = _
      rw [allS_map setS (fun z => (setG z).data.toList) id r (fun z hz => (ok r hr z hz).s), List.map_id]; rfl)]
    simp
  · unfold choL
    rw [h2]
    refine Prod.ext rfl ?_
    show (xss.map (fun r => r.map (fun z => (setG z).data.toList))).map (fun w => w.map setL) = xss
    rw [List.map_map]
    conv => rhs; rw [← List.map_id xss]
    refine List.map_congr_left (fun r hr => ?_)
    show (r.map (fun z => (setG z).data.toList)).map setL = r
    rw [List.map_map]
    conv => rhs; rw [← List.map_id r]
    exact List.map_congr_left (fun z hz => (ok r hr z hz).l)
end Go.Proofs.YtfdacodbiodiaaaGreatDoor
