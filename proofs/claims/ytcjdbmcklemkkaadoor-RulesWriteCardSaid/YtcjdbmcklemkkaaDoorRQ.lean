/- A line's words; no program stands here. -/
import Derived.Test.YtcjdbmcklemkkaaDoorRP
namespace Go.Vc
open Go
def wordsGo : List (List UInt8) → List (List UInt8)
  | [] => []
  | p :: r => if ([35] : List UInt8).isPrefixOf p = true then [] else if p = [] then wordsGo r else p :: wordsGo r
/-- A line's words, without what is nothing. -/
def wordsOf (s : List UInt8) : List (List UInt8) := wordsGo (splitL 32 s)
theorem splitGo_len (c : UInt8) : ∀ (l cur : List UInt8) (p : List UInt8), p ∈ splitGo c l cur → p.length ≤ cur.length + l.length
  | [], cur, p, h => by simp [splitGo] at h; subst h; simp
  | b :: l, cur, p, h => by
    rw [splitGo] at h
    split at h
    · rcases List.mem_cons.1 h with rfl | h
      · simp
      · have := splitGo_len c l [] p h; simp at this ⊢; omega
    · have := splitGo_len c l _ p h; simp at this ⊢; omega
theorem splitL_len {c : UInt8} {s p : List UInt8} (h : p ∈ splitL c s) : p.length ≤ s.length := by have := splitGo_len c s [] p h; simpa using this
theorem splitGo_num (c : UInt8) : ∀ (l cur : List UInt8), (splitGo c l cur).length ≤ l.length + 1
  | [], cur => by simp [splitGo]
  | b :: l, cur => by
    rw [splitGo]; split
    · have := splitGo_num c l []; simp; omega
    · have := splitGo_num c l (cur ++ [b]); simp; omega
theorem splitL_num (c : UInt8) (s : List UInt8) : (splitL c s).length ≤ s.length + 1 := splitGo_num c s []
theorem wordsGo_num : ∀ (l : List (List UInt8)), (wordsGo l).length ≤ l.length
  | [] => by simp [wordsGo]
  | p :: r => by
    have := wordsGo_num r
    rw [wordsGo]; split
    · simp
    · split
      · simp; omega
      · simp; omega
theorem wordsGo_mem : ∀ (l : List (List UInt8)) (x : List UInt8), x ∈ wordsGo l → x ∈ l
  | [], x, h => by simp [wordsGo] at h
  | p :: r, x, h => by
    rw [wordsGo] at h
    split at h
    · simp at h
    · split at h
      · exact List.mem_cons_of_mem _ (wordsGo_mem r x h)
      · rcases List.mem_cons.1 h with rfl | h
        · simp
        · exact List.mem_cons_of_mem _ (wordsGo_mem r x h)
end Go.Vc
