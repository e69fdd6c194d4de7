/- PLAIN: a table's text, cut at its line ends and at its spaces. -/
import Derived.Test.YtfdacodbiodiaaaDoorCutText
namespace Go.Proofs.YtfdacodbiodiaaaDoor
set_option linter.unusedVariables false
set_option linter.unusedSimpArgs false

def spG : ByteArray := ⟨#[32]⟩
def nlG : ByteArray := ⟨#[10]⟩
def numG {α : Type} (cel : α → ByteArray) (w : ByteArray) (zs : List α) : ByteArray := zs.foldl (fun o z => o ++ (spG ++ cel z)) w
def lineG {α : Type} (cel : α → ByteArray) (w : ByteArray) (zs : List α) : ByteArray := numG cel w zs ++ nlG
def rowsG {α : Type} (cel : α → ByteArray) (o w : ByteArray) (xss : List (List α)) : ByteArray := xss.foldl (fun o r => o ++ lineG cel w r) o

/-- a line's words -/
def wordsG {α : Type} (cel : α → ByteArray) (w : ByteArray) (zs : List α) : List (List UInt8) := w.data.toList :: zs.map (fun z => (cel z).data.toList)

theorem dataG (a b : ByteArray) : (a ++ b).data.toList = a.data.toList ++ b.data.toList := by
  simp [ByteArray.data_append]

theorem joinL_merge (c : UInt8) (p q : List UInt8) (ps : List (List UInt8)) : joinL c ((p ++ c :: q) :: ps) = joinL c (p :: q :: ps) := by
  cases ps with
  | nil => rfl
  | cons r rs => simp [joinL]

theorem numG_data {α : Type} (cel : α → ByteArray) : ∀ (zs : List α) (w : ByteArray), (numG cel w zs).data.toList = joinL 32 (wordsG cel w zs)
  | [], w => rfl
  | z :: zs, w => by
    show (numG cel (w ++ (spG ++ cel z)) zs).data.toList = _
    rw [numG_data cel zs]
    unfold wordsG
    rw [dataG, dataG]
    show joinL 32 ((w.data.toList ++ 32 :: (cel z).data.toList) :: _) = _
    rw [joinL_merge]; rfl

theorem lineG_data {α : Type} (cel : α → ByteArray) (w : ByteArray) (zs : List α) : (lineG cel w zs).data.toList = joinL 32 (wordsG cel w zs) ++ [10] := by
  unfold lineG; rw [dataG, numG_data]; rfl

theorem rowsG_data {α : Type} (cel : α → ByteArray) (w : ByteArray) : ∀ (xss : List (List α)) (o : ByteArray), (rowsG cel o w xss).data.toList = o.data.toList ++ ((xss.map (fun r => joinL 32 (wordsG cel w r))).map (· ++ [10])).flatten
  | [], o => by simp [rowsG]
  | r :: xss, o => by
    show (rowsG cel (o ++ lineG cel w r) w xss).data.toList = _
    rw [rowsG_data cel w xss, dataG, lineG_data]
    simp

theorem joinL_lines (c : UInt8) : ∀ (ls : List (List UInt8)), joinL c (ls ++ [[]]) = (ls.map (· ++ [c])).flatten
  | [] => rfl
  | l :: ls => by
    show joinL c (l :: (ls ++ [[]])) = _
    rw [joinL_cons c l (by simp), joinL_lines c ls]; simp

theorem joinL_free (c d : UInt8) (hcd : c ≠ d) : ∀ (ps : List (List UInt8)), (∀ p ∈ ps, c ∉ p) → c ∉ joinL d ps
  | [], _ => by simp [joinL]
  | [p], h => h p (List.mem_cons_self ..)
  | p :: q :: ps, h => by
    rw [joinL_cons d p (by simp)]
    intro hm
    rcases List.mem_append.1 hm with e | e
    · exact h p (List.mem_cons_self ..) e
    · rcases List.mem_cons.1 e with e | e
      · exact hcd e
      · exact joinL_free c d hcd (q :: ps) (fun r hr => h r (List.mem_cons_of_mem _ hr)) e

/-- A TABLE's TEXT, CUT: its head line, its rows' lines, and an empty last piece. -/
theorem table_cut {α β : Type} (hel : β → ByteArray) (cel : α → ByteArray) (h w : ByteArray) (ns : List β) (xss : List (List α))
    (hh : (10 : UInt8) ∉ h.data.toList) (hw : (10 : UInt8) ∉ w.data.toList)
    (hn : ∀ z ∈ ns, (10 : UInt8) ∉ (hel z).data.toList) (hc : ∀ r ∈ xss, ∀ z ∈ r, (10 : UInt8) ∉ (cel z).data.toList) :
    cutL 10 (rowsG cel (lineG hel h ns) w xss).data.toList = joinL 32 (wordsG hel h ns) :: (xss.map (fun r => joinL 32 (wordsG cel w r)) ++ [[]]) := by
  have e : (rowsG cel (lineG hel h ns) w xss).data.toList = joinL 10 ((joinL 32 (wordsG hel h ns) :: xss.map (fun r => joinL 32 (wordsG cel w r))) ++ [[]]) := by
    rw [joinL_lines, rowsG_data, lineG_data]; simp
  rw [e, cutL_joinL 10 _ (by simp)]
  · rfl
  · intro p hp
    have free : ∀ {γ : Type} (cl : γ → ByteArray) (u : ByteArray) (zs : List γ), (10 : UInt8) ∉ u.data.toList → (∀ z ∈ zs, (10 : UInt8) ∉ (cl z).data.toList) → (10 : UInt8) ∉ joinL 32 (wordsG cl u zs) := by
      intro γ cl u zs h1 h2
      refine joinL_free 10 32 (by decide) _ ?_
      intro q hq
      unfold wordsG at hq
      rcases List.mem_cons.1 hq with e | e
      · rw [e]; exact h1
      · obtain ⟨z, hz, ez⟩ := List.mem_map.1 e
        rw [← ez]; exact h2 z hz
    rcases List.mem_append.1 hp with e | e
    · rcases List.mem_cons.1 e with e | e
      · rw [e]; exact free hel h ns hh hn
      · obtain ⟨r, hr, er⟩ := List.mem_map.1 e
        rw [← er]; exact free cel w r hw (hc r hr)
    · have : p = [] := by simpa using e
      rw [this]; simp

/-- a line, cut at its spaces -/
theorem line_cut {α : Type} (cel : α → ByteArray) (w : ByteArray) (zs : List α) (hw : (32 : UInt8) ∉ w.data.toList) (hc : ∀ z ∈ zs, (32 : UInt8) ∉ (cel z).data.toList) :
    cutL 32 (joinL 32 (wordsG cel w zs)) = wordsG cel w zs := by
  refine cutL_joinL 32 _ (by simp [wordsG]) ?_
  intro p hp
  unfold wordsG at hp
  rcases List.mem_cons.1 hp with e | e
  · rw [e]; exact hw
  · obtain ⟨z, hz, ez⟩ := List.mem_map.1 e
    rw [← ez]; exact hc z hz
end Go.Proofs.YtfdacodbiodiaaaDoor
