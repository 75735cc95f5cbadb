/- From the row's readings to schemas and events. Own work (session 2). -/
import Derived.Test.YtopogilbllajcaaS2K
import Derived.Test.YtopogilbllajcaaS2R
set_option maxRecDepth 20000
namespace Go.Hx
theorem has_i64 {n : Nat} {cs : List AV} (h : HasT Pg n 2 cs) : ∃ i, cs = [I i] := by
  cases n with
  | zero => exact h.elim
  | succ n =>
    have e : HasT Pg (n + 1) 2 cs = ∃ i, cs = [.raw (.int .i64 i)] ∧ (Lit.int .i64 i).wf = true := by kernel_rfl
    rw [e] at h; obtain ⟨i, h, _⟩ := h; exact ⟨i, h⟩
theorem has_u16 {n : Nat} {cs : List AV} (h : HasT Pg n 39 cs) : ∃ i, cs = [.raw (.int .u16 i)] ∧ 0 ≤ i ∧ i ≤ 65535 := by
  cases n with
  | zero => exact h.elim
  | succ n =>
    have e : HasT Pg (n + 1) 39 cs = ∃ i, cs = [.raw (.int .u16 i)] ∧ (Lit.int .u16 i).wf = true := by kernel_rfl
    rw [e] at h; obtain ⟨i, h, hw⟩ := h
    refine ⟨i, h, ?_⟩
    simpa [Lit.wf, IntKind.min, IntKind.max, IntKind.signed, IntKind.bits] using hw
theorem has_V {n : Nat} {cs : List AV} (h : HasT Pg n 82 cs) : ∃ v : Vl, cs = [I v.k, I v.n, S v.s] := by
  cases n with
  | zero => exact h.elim
  | succ n =>
    have h := h.str
    have e : StrT Pg n 82 cs = (cs.length = 3 ∧ (HasT Pg n 3 ((cs.drop 0).take 1) ∧ (HasT Pg n 2 ((cs.drop 1).take 1) ∧ (HasT Pg n 9 ((cs.drop 2).take 1) ∧ True)))) := by kernel_rfl
    rw [e] at h
    obtain ⟨hl, h1, h2, h3, _⟩ := h
    match cs, hl with
    | [a, b, c], _ =>
      obtain ⟨i, hi⟩ := has_int h1
      obtain ⟨j, hj⟩ := has_i64 h2
      obtain ⟨s, hs⟩ := has_S h3
      simp at hi hj hs
      exact ⟨⟨i, j, s⟩, by simp [hi, hj, hs]⟩
theorem has_F {n : Nat} {cs : List AV} (h : HasT Pg n 60 cs) : ∃ v : Fd, cs = [S v.name, I v.k] := by
  cases n with
  | zero => exact h.elim
  | succ n =>
    have h := h.str
    have e : StrT Pg n 60 cs = (cs.length = 2 ∧ (HasT Pg n 9 ((cs.drop 0).take 1) ∧ (HasT Pg n 3 ((cs.drop 1).take 1) ∧ True))) := by kernel_rfl
    rw [e] at h
    obtain ⟨hl, h1, h2, _⟩ := h
    match cs, hl with
    | [a, b], _ =>
      obtain ⟨s, hs⟩ := has_S h1
      obtain ⟨i, hi⟩ := has_int h2
      simp at hi hs
      exact ⟨⟨s, i⟩, by simp [hi, hs]⟩
theorem has_Vs {n : Nat} {cs : List AV} (h : HasT Pg n 43 cs) : ∃ nil tip l, cs = [encVl 3 nil tip l] := by
  cases n with
  | zero => exact h.elim
  | succ n =>
    have e : HasT Pg (n + 1) 43 cs = (cs = [.sl 3 true .full []] ∨ ∃ xs : List AV, cs = [.sl 3 false .any xs] ∧ ∀ x ∈ xs, ∃ c, x = packA Pg 82 c ∧ HasT Pg n 82 c) := by kernel_rfl
    rw [e] at h
    rcases h with rfl | ⟨xs, rfl, h⟩
    · exact ⟨true, .full, [], rfl⟩
    · obtain ⟨l, rfl⟩ := map_of (f := encV) xs (fun x hx => by
        obtain ⟨c, rfl, hc⟩ := h x hx
        obtain ⟨v, rfl⟩ := has_V hc
        exact ⟨v, by kernel_rfl⟩)
      exact ⟨false, .any, l, rfl⟩
theorem has_Fs {n : Nat} {cs : List AV} (h : HasT Pg n 61 cs) : ∃ nil tip l, cs = [encFs 2 nil tip l] := by
  cases n with
  | zero => exact h.elim
  | succ n =>
    have e : HasT Pg (n + 1) 61 cs = (cs = [.sl 2 true .full []] ∨ ∃ xs : List AV, cs = [.sl 2 false .any xs] ∧ ∀ x ∈ xs, ∃ c, x = packA Pg 60 c ∧ HasT Pg n 60 c) := by kernel_rfl
    rw [e] at h
    rcases h with rfl | ⟨xs, rfl, h⟩
    · exact ⟨true, .full, [], rfl⟩
    · obtain ⟨l, rfl⟩ := map_of (f := encF) xs (fun x hx => by
        obtain ⟨c, rfl, hc⟩ := h x hx
        obtain ⟨v, rfl⟩ := has_F hc
        exact ⟨v, by kernel_rfl⟩)
      exact ⟨false, .any, l, rfl⟩
theorem has_Sc {n : Nat} {cs : List AV} (h : HasT Pg n 63 cs) : ∃ c : Sc, cs = scC c := by
  cases n with
  | zero => exact h.elim
  | succ n =>
    have h := h.str
    have e : StrT Pg n 63 cs = (cs.length = 2 ∧ (HasT Pg n 9 ((cs.drop 0).take 1) ∧ (HasT Pg n 61 ((cs.drop 1).take 1) ∧ True))) := by kernel_rfl
    rw [e] at h
    obtain ⟨hl, h1, h2, _⟩ := h
    match cs, hl with
    | [a, b], _ =>
      obtain ⟨s, hs⟩ := has_S h1
      obtain ⟨nil, tip, l, hi⟩ := has_Fs h2
      simp at hi hs
      exact ⟨⟨s, 2, nil, tip, l⟩, by simp [hi, hs]⟩
theorem has_En {n : Nat} {cs : List AV} (h : HasT Pg n 45 cs) : ∃ c : En, cs = enC c := by
  cases n with
  | zero => exact h.elim
  | succ n =>
    have h := h.str
    have e : StrT Pg n 45 cs = (cs.length = 3 ∧ (HasT Pg n 9 ((cs.drop 0).take 1) ∧ (HasT Pg n 2 ((cs.drop 1).take 1) ∧ (HasT Pg n 43 ((cs.drop 2).take 1) ∧ True)))) := by kernel_rfl
    rw [e] at h
    obtain ⟨hl, h1, h2, h3, _⟩ := h
    match cs, hl with
    | [a, b, c], _ =>
      obtain ⟨s, hs⟩ := has_S h1
      obtain ⟨i, hi⟩ := has_i64 h2
      obtain ⟨nil, tip, l, hv⟩ := has_Vs h3
      simp at hi hs hv
      exact ⟨⟨s, i, 3, nil, tip, l⟩, by simp [hi, hs, hv]⟩
theorem has_Scs {n : Nat} {cs : List AV} (h : HasT Pg n 37 cs) : ∃ nil tip l, cs = [encScs 2 nil tip l] := by
  cases n with
  | zero => exact h.elim
  | succ n =>
    have e : HasT Pg (n + 1) 37 cs = (cs = [.sl 2 true .full []] ∨ ∃ xs : List AV, cs = [.sl 2 false .any xs] ∧ ∀ x ∈ xs, ∃ c, x = packA Pg 63 c ∧ HasT Pg n 63 c) := by kernel_rfl
    rw [e] at h
    rcases h with rfl | ⟨xs, rfl, h⟩
    · exact ⟨true, .full, [], rfl⟩
    · obtain ⟨l, rfl⟩ := map_of (f := encSc) xs (fun x hx => by
        obtain ⟨c, rfl, hc⟩ := h x hx
        obtain ⟨v, rfl⟩ := has_Sc hc
        exact ⟨v, by kernel_rfl⟩)
      exact ⟨false, .any, l, rfl⟩
theorem has_Es {n : Nat} {cs : List AV} (h : HasT Pg n 38 cs) : ∃ nil tip l, cs = [encEs 3 nil tip l] := by
  cases n with
  | zero => exact h.elim
  | succ n =>
    have e : HasT Pg (n + 1) 38 cs = (cs = [.sl 3 true .full []] ∨ ∃ xs : List AV, cs = [.sl 3 false .any xs] ∧ ∀ x ∈ xs, ∃ c, x = packA Pg 45 c ∧ HasT Pg n 45 c) := by kernel_rfl
    rw [e] at h
    rcases h with rfl | ⟨xs, rfl, h⟩
    · exact ⟨true, .full, [], rfl⟩
    · obtain ⟨l, rfl⟩ := map_of (f := encE) xs (fun x hx => by
        obtain ⟨c, rfl, hc⟩ := h x hx
        obtain ⟨v, rfl⟩ := has_En hc
        exact ⟨v, by kernel_rfl⟩)
      exact ⟨false, .any, l, rfl⟩
theorem sz_Fs (l : List Fd) : ∀ f ∈ l, f.name.size ≤ szL (l.map encF) := fun f hf => by
  have h1 : szA (encF f) ≤ szL (l.map encF) := szA_le_szL (List.mem_map_of_mem hf)
  simp only [encF, szA, szL, S] at h1
  omega
theorem sz_Scs (l : List Sc) (h : szL (l.map encSc) ≤ 1048576) : ∀ c ∈ l, okSc c := fun c hc => by
  have h1 : szA (encSc c) ≤ szL (l.map encSc) := szA_le_szL (List.mem_map_of_mem hc)
  simp only [encSc, encFs, szA, szL, S] at h1
  have h2 := length_le_szL (c.fs.map encF)
  rw [List.length_map] at h2
  exact ⟨by omega, by omega, fun f hf => by have := sz_Fs c.fs f hf; omega⟩
theorem sz_Es (l : List En) (h : szL (l.map encE) ≤ 1048576) : ∀ c ∈ l, c.vs.length ≤ 1099511627776 := fun c hc => by
  have h1 : szA (encE c) ≤ szL (l.map encE) := szA_le_szL (List.mem_map_of_mem hc)
  simp only [encE, encVl, szA, szL, S] at h1
  have h2 := length_le_szL (c.vs.map encV)
  rw [List.length_map] at h2
  omega
theorem shutOf2 : shutT Pg [2, 3, 9, 37, 38, 39, 43, 45, 60, 61, 63, 82] = true := by kernel_rfl
end Go.Hx
