/- From the row's readings to schemas. Own work (session 2). -/
import Derived.Test.YthhghcekcgonnaaS3TN
import Derived.Test.YthhghcekcgonnaaS3R
set_option maxRecDepth 20000
namespace Go.Hx
theorem has_F {n : Nat} {cs : List AV} (h : HasT Pg n 66 cs) : ∃ v : Fd, cs = [S v.name, I v.k] := by
  cases n with
  | zero => exact h.elim
  | succ n =>
    have h := h.str
    have e : StrT Pg n 66 cs = (cs.length = 2 ∧ (HasT Pg n 9 ((cs.drop 0).take 1) ∧ (HasT Pg n 3 ((cs.drop 1).take 1) ∧ True))) := by kernel_rfl
    rw [e] at h
    obtain ⟨hl, h1, h2, _⟩ := h
    match cs, hl with
    | [a, b], _ =>
      obtain ⟨s, hs⟩ := has_S h1
      obtain ⟨i, hi, _⟩ := has_int 3 (.inl rfl) h2
      simp at hi hs
      exact ⟨⟨s, i⟩, by simp [hi, hs]⟩
theorem has_Fs {n : Nat} {cs : List AV} (h : HasT Pg n 67 cs) : ∃ nil tip l, cs = [encFs 2 nil tip l] := by
  cases n with
  | zero => exact h.elim
  | succ n =>
    have e : HasT Pg (n + 1) 67 cs = (cs = [.sl 2 true .full []] ∨ ∃ xs : List AV, cs = [.sl 2 false .any xs] ∧ ∀ x ∈ xs, ∃ c, x = packA Pg 66 c ∧ HasT Pg n 66 c) := by kernel_rfl
    rw [e] at h
    rcases h with rfl | ⟨xs, rfl, h⟩
    · exact ⟨true, .full, [], rfl⟩
    · obtain ⟨l, rfl⟩ := map_of (f := encF) xs (fun x hx => by
        obtain ⟨c, rfl, hc⟩ := h x hx
        obtain ⟨v, rfl⟩ := has_F hc
        exact ⟨v, by kernel_rfl⟩)
      exact ⟨false, .any, l, rfl⟩
theorem has_Sc {n : Nat} {cs : List AV} (h : HasT Pg n 69 cs) : ∃ c : Sc, cs = scC c := by
  cases n with
  | zero => exact h.elim
  | succ n =>
    have h := h.str
    have e : StrT Pg n 69 cs = (cs.length = 2 ∧ (HasT Pg n 9 ((cs.drop 0).take 1) ∧ (HasT Pg n 67 ((cs.drop 1).take 1) ∧ True))) := by kernel_rfl
    rw [e] at h
    obtain ⟨hl, h1, h2, _⟩ := h
    match cs, hl with
    | [a, b], _ =>
      obtain ⟨s, hs⟩ := has_S h1
      obtain ⟨nil, tip, l, hi⟩ := has_Fs h2
      simp at hi hs
      exact ⟨⟨s, 2, nil, tip, l⟩, by simp [hi, hs]⟩
theorem has_Scs {n : Nat} {cs : List AV} (h : HasT Pg n 28 cs) : ∃ nil tip l, cs = [encScs 2 nil tip l] ∧ (nil = true → l = []) := by
  cases n with
  | zero => exact h.elim
  | succ n =>
    have e : HasT Pg (n + 1) 28 cs = (cs = [.sl 2 true .full []] ∨ ∃ xs : List AV, cs = [.sl 2 false .any xs] ∧ ∀ x ∈ xs, ∃ c, x = packA Pg 69 c ∧ HasT Pg n 69 c) := by kernel_rfl
    rw [e] at h
    rcases h with rfl | ⟨xs, rfl, h⟩
    · exact ⟨true, .full, [], rfl, fun _ => rfl⟩
    · obtain ⟨l, rfl⟩ := map_of (f := encSc) xs (fun x hx => by
        obtain ⟨c, rfl, hc⟩ := h x hx
        obtain ⟨v, rfl⟩ := has_Sc hc
        exact ⟨v, by kernel_rfl⟩)
      exact ⟨false, .any, l, rfl, fun h => by cases h⟩
theorem sz_Fs (l : List Fd) : ∀ f ∈ l, f.name.size ≤ szL (l.map encF) := fun f hf => by
  have h1 : szA (encF f) ≤ szL (l.map encF) := szA_le_szL (List.mem_map_of_mem hf)
  simp only [encF, szA, szL, S] at h1
  omega
theorem sz_Scs (l : List Sc) (h : szL (l.map encSc) ≤ 1048576) : ∀ c ∈ l, okSc c := fun c hc => by
  have h1 : szA (encSc c) ≤ szL (l.map encSc) := szA_le_szL (List.mem_map_of_mem hc)
  simp only [encSc, encFs, szA, szL, S] at h1
  have h2 := length_le_szL (c.fs.map encF)
  rw [List.length_map] at h2
  exact ⟨by omega, by omega, fun f hf => by have := sz_Fs c.fs f hf; omega⟩
theorem shutOf3 : shutT Pg [2, 3, 5, 9, 23, 24, 26, 28, 29, 49, 66, 67, 69] = true := by kernel_rfl
end Go.Hx
