/- Slices of one's own. Own work. -/
import Derived.Test.YtancdapnpceogaaGreatS5E
set_option maxRecDepth 20000
namespace Go.Hx
theorem OwnS.ext {H0 H H' : Heap} {sz n : Nat} {tip : Tip} (h : OwnS H0 H sz n tip) (he : HExt H H') : OwnS H0 H' sz n tip := by
  cases tip with
  | any => exact h
  | full => exact h
  | tip b =>
    refine ⟨?_, h.2⟩
    have h1 := h.1
    rw [(he b (fun hf => by rw [hf.2] at h1; cases h1)).2.1]; exact h1
theorem app_many {H0 H : Heap} {sz sz' bytes s2 : Nat} {nil nil2 : Bool} {tip tip2 : Tip} {xs ys : List AV} {K : Post} (he : HExt H0 H) (ho : OwnS H0 H sz xs.length tip) (hs : nil = true ∨ sz' = sz) (hs2 : nil2 = true ∨ s2 = sz) (h1 : 1 ≤ sz)
    (hb : (xs.length + ys.length) * bytes ≤ 140737488355328) (hk : ∀ s' n' tip' H', (n' = true ∨ s' = sz) → HExt H0 H' → OwnS H0 H' sz (xs ++ ys).length tip' → K (.sl s' n' tip' (xs ++ ys)) H') :
    appA sz bytes (.sl sz' nil tip xs) (.sl s2 nil2 tip2 ys) H K := by
  have ht : tailA sz (.sl s2 nil2 tip2 ys) = some ys := by simp [tailA, hs2]
  unfold appA
  simp only [ht]
  cases ys with
  | nil => have := hk sz' nil tip H hs he (by simpa using ho); simpa using this
  | cons y ys =>
    refine ⟨hs, h1, hb, ?_⟩
    cases tip with
    | any => exact ho.elim
    | full =>
      intro b hf
      exact hk sz false _ _ (.inr rfl) (he.setTip (he.fresh hf) _) ⟨by simp [Heap.setTip], he.fresh hf⟩
    | tip b0 =>
      refine ⟨ho.1, fun b hf => ?_⟩
      have hf0 : H0.fresh b := by
        rcases hf with rfl | hf
        · exact ho.2
        · exact he.fresh hf
      exact hk sz false _ _ (.inr rfl) (he.setTip hf0 _) ⟨by simp [Heap.setTip], hf0⟩
theorem x3_0 (a b c : AV) : extractA (.tup [a, b, c]) 0 = some a := rfl
theorem x3_1 (a b c : AV) : extractA (.tup [a, b, c]) 1 = some b := rfl
theorem x3_2 (a b c : AV) : extractA (.tup [a, b, c]) 2 = some c := rfl
theorem x2_0 (a b : AV) : extractA (.tup [a, b]) 0 = some a := rfl
theorem x2_1 (a b : AV) : extractA (.tup [a, b]) 1 = some b := rfl
end Go.Hx
