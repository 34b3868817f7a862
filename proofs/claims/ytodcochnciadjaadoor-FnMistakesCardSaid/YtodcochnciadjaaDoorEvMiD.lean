/- Even tables: the program's and the reference's. -/
import Derived.Test.YtodcochnciadjaaDoorEvMiC
import Derived.Test.YtodcochnciadjaaDoorEvTurn
set_option linter.unusedVariables false
set_option linter.unusedSimpArgs false
namespace Go.Proofs.YtodcochnciadjaaDoor.Ev
def evM (m : ByteArray) : ByteArray := m ++ ⟨#[Ds.par (B m)]⟩
def evn (ms : List ByteArray) : List ByteArray := ms.map evM
theorem dash_count : ∀ l : List UInt8, Ds.dash l = l.count 45
  | [] => rfl
  | x :: l => by
    rw [Ds.dash, List.count_cons, dash_count l]
    by_cases h : x = 45
    · rw [if_pos h, if_pos (by simpa using h)]; omega
    · rw [if_neg h, if_neg (by simpa using h)]; omega
theorem dash_le : ∀ l : List UInt8, Ds.dash l ≤ l.length := fun l => by rw [dash_count]; exact List.count_le_length
theorem par_of (m : ByteArray) : (Ds.dash (B m) % 2 = 0 → evM m = m ++ ⟨#[46]⟩) ∧ (Ds.dash (B m) % 2 = 1 → evM m = m ++ ⟨#[45]⟩) := by
  unfold evM Ds.par
  constructor
  · intro h; rw [if_neg (by omega)]
  · intro h; rw [if_pos h]
theorem clo78 (m : ByteArray) (hm : m.size ≤ 100000) : ev E0 78 [st m] [] = some (st (evM m), []) := by
  have hc : ev E0 79 [st m, st ⟨#[45]⟩] [] = some (i64 ((Ds.dash (B m) : Nat) : Int), []) := by
    rw [e79, dash_count]
    rfl
  obtain ⟨p0, p1⟩ := par_of m
  have o1 : m.size + (⟨#[46]⟩ : ByteArray).size ≤ 9223372036854775807 := by rw [show (⟨#[46]⟩ : ByteArray).size = 1 from rfl]; omega
  have o2 : m.size + (⟨#[45]⟩ : ByteArray).size ≤ 9223372036854775807 := by rw [show (⟨#[45]⟩ : ByteArray).size = 1 from rfl]; omega
  generalize Ds.dash (B m) = n at *
  have hmod : Int.tmod (n : Int) 2 = ((n % 2 : Nat) : Int) := rfl
  rw [e78]
  unfold runF
  by_cases h : n % 2 = 0
  · rw [h] at hmod
    rw [p0 h]
    rw [c0] at hmod
    simp -implicitDefEqProofs [L78, -ByteArray.size_append, hc, hmod, o1, o2]
  · have h1 : n % 2 = 1 := by omega
    rw [h1] at hmod
    rw [p1 h1]
    rw [show ((1 : Nat) : Int) = 1 from rfl] at hmod
    simp -implicitDefEqProofs [L78, -ByteArray.size_append, hc, hmod, o1, o2]
def okEv (ms : List ByteArray) : Bool := okTable ms && okTable (evn ms)
theorem evn_sz {ms : List ByteArray} {c : Nat} (h : ∀ m ∈ ms, m.size ≤ c) : ∀ m ∈ evn ms, m.size ≤ c + 1 := by
  intro m hm
  obtain ⟨x, hx, rfl⟩ := List.mem_map.1 hm
  have := h x hx
  unfold evM
  rw [ByteArray.size_append, show (⟨#[Ds.par (B x)]⟩ : ByteArray).size = 1 from rfl]
  omega
theorem even_i (ms : List ByteArray) (hm : ms.length ≤ 100) (hz : ∀ m ∈ ms, m.size ≤ 400) : ev E0 40 [.agg [.lst 1 (ms.map st)]] [] = if okEv ms = true then some (.tup [.agg [.sl 0 0 ms.length], bl true], [some (sB (evn ms))]) else some (.tup [.agg [.v (.slice none 0 0)], bl false], []) := by
  have h1 := turned_i 78 rfl evM ms (by omega) (fun m hm' => by have := hz m hm'; omega) (fun _ m hm' => clo78 m (by have := hz m hm'; omega))
  have h2 := table_i (evn ms) (by unfold evn; rw [List.length_map]; omega) (fun x hx => by have := evn_sz hz x hx; omega)
  change _ = if okTable ms = true then some (AV.tup [.agg [.sl 0 0 ms.length], bl true], [some (sB (evn ms))]) else _ at h1
  have hl : (evn ms).length = ms.length := by unfold evn; rw [List.length_map]
  unfold okEv
  generalize evn ms = E at *
  have ht : List.take ms.length (E.map st) = E.map st := List.take_of_length_le (by rw [List.length_map]; omega)
  unfold sB at *
  rw [e40]
  unfold runF
  cases ho : okTable ms with
  | false =>
    rw [ho] at h1
    simp -implicitDefEqProofs [L40, h1]
  | true =>
    rw [ho, if_pos rfl] at h1
    cases hc : okTable E with
    | false =>
      rw [hc] at h2
      simp -implicitDefEqProofs [L40, h1, h2, ht, hl]
    | true =>
      rw [hc] at h2
      simp -implicitDefEqProofs [L40, h1, h2, ht, hl]
theorem evS0 (ms : List ByteArray) (hm : ms.length ≤ 100) (i : Nat) (hi : i < ms.length) (hz : (mk_ ms i).size ≤ 1000) (n : Nat) (acc : List ByteArray) : ∀ (t : List UInt8) (k d : Nat), (B (mk_ ms i)).drop k = t → d ≤ k →
    packX 0 [1, 2, 4, 5, 6] (loopW (bd E0 (ev E0) loopW 0 [1, 2, 4, 5, 6, 7] L41b0) ⟨[(1, .ptr 0 0 0), (2, .ptr 1 0 0), (4, .ptr 2 0 0), (5, i64 i), (6, i64 d), (7, i64 k)], [some (tb ms), some tN, some (tS 3 n), some (sB acc)]⟩) =
      some (.ext 2, ⟨[(1, .ptr 0 0 0), (2, .ptr 1 0 0), (4, .ptr 2 0 0), (5, i64 i), (6, i64 ((d + Ds.dash t : Nat) : Int))], [some (tb ms), some tN, some (tS 3 n), some (sB acc)]⟩) := by
  have g1 := get_mk hi
  have m1 := mk_at hi
  have hi2 : (i : Int) < (ms.length : Int) := by omega
  generalize mk_ ms i = a at *
  unfold tb tN tS sB
  intro t
  induction t with
  | nil =>
    intro k d h _
    have hk := byte_end h
    have hk2 : ¬ (k : Int) < (a.size : Int) := by omega
    rw [show d + Ds.dash [] = d from rfl, loopW_eq]
    generalize loopW (bd E0 (ev E0) loopW 0 [1, 2, 4, 5, 6, 7] L41b0) = K
    simp -implicitDefEqProofs [bd, L41b0, hi, hi2, g1, m1, hk, hk2]
  | cons c t ih =>
    intro k d h hd
    obtain ⟨hk, hb, hdr⟩ := byte_at h
    have hk2 : (k : Int) < (a.size : Int) := by omega
    have hw : IntKind.i64.wrap ((k : Int) + 1) = (k : Int) + 1 := wr64 (by omega) (by omega)
    rw [loopW_eq]
    by_cases hc : c = 45
    · have hih := ih (k + 1) (d + 1) hdr (by omega)
      rw [cs1 k, cs1 d, show d + 1 + Ds.dash t = d + Ds.dash (c :: t) by rw [Ds.dash, if_pos hc]; omega] at hih
      have hc2 : (c.toNat : Int) = 45 := by rw [hc]; rfl
      have hw2 : IntKind.i64.wrap ((d : Int) + 1) = (d : Int) + 1 := wr64 (by omega) (by omega)
      clear ih
      generalize d + Ds.dash (c :: t) = R at hih ⊢
      generalize loopW (bd E0 (ev E0) loopW 0 [1, 2, 4, 5, 6, 7] L41b0) = K at hih ⊢
      simpa -implicitDefEqProofs [bd, L41b0, -List.getD_eq_getElem?_getD, hi, hi2, g1, m1, hk, hk2, hb, hc2, hw, hw2] using hih
    · have hih := ih (k + 1) d hdr (by omega)
      rw [cs1 k, show d + Ds.dash t = d + Ds.dash (c :: t) by rw [Ds.dash, if_neg hc]; omega] at hih
      have hc2 : ¬ (c.toNat : Int) = 45 := fun e => hc (UInt8.toNat_inj.1 (by rw [show (45 : UInt8).toNat = 45 from rfl]; omega))
      clear ih
      generalize d + Ds.dash (c :: t) = R at hih ⊢
      generalize loopW (bd E0 (ev E0) loopW 0 [1, 2, 4, 5, 6, 7] L41b0) = K at hih ⊢
      simpa -implicitDefEqProofs [bd, L41b0, -List.getD_eq_getElem?_getD, hi, hi2, g1, m1, hk, hk2, hb, hc2, hw] using hih
theorem evS1 (ms : List ByteArray) (hm : ms.length ≤ 100) (hz : ∀ m ∈ ms, m.size ≤ 400) : ∀ (t : List ByteArray) (i : Nat) (acc : List ByteArray), ms.drop i = t → acc.length = i → i + t.length = ms.length →
    packX 0 [2, 4] (loopW (bd E0 (ev E0) loopW 0 [1, 2, 4, 5] L41b1) ⟨[(1, .ptr 0 0 0), (2, .ptr 1 0 0), (4, .ptr 2 0 0), (5, i64 i)], [some (tb ms), some tN, some (tS 3 i), some (sB acc)]⟩) =
      some (.ext 0, ⟨[(2, .ptr 0 0 0), (4, .ptr 1 0 0)], [some tN, some (tS 2 ms.length), some (sB (acc ++ t.map evM))]⟩) := by
  intro t
  induction t with
  | nil =>
    intro i acc h ha hl
    rw [List.length_nil] at hl
    obtain rfl : i = ms.length := by omega
    rw [List.map_nil, List.append_nil, loopW_eq]
    unfold tb tN tS sB
    generalize loopW (bd E0 (ev E0) loopW 0 [1, 2, 4, 5] L41b1) = K
    unfold bd
    simp -implicitDefEqProofs [L41b1]
  | cons m t ih =>
    intro i acc h ha hl
    rw [List.length_cons] at hl
    obtain ⟨hi, hx, hd, hmem⟩ := at_drop h
    have hmk : mk_ ms i = m := by rw [← mk_at hi, hx]
    have hzm := hz m hmem
    have hin := evS0 ms hm i hi (by rw [hmk]; omega) i acc (B (mk_ ms i)) 0 0 rfl (Nat.le_refl _)
    have hih := ih (i + 1) (acc ++ [evM m]) hd (by simp; omega) (by omega)
    rw [cs1, List.append_assoc, List.singleton_append, ← List.map_cons] at hih
    have hi2 : (i : Int) < (ms.length : Int) := by omega
    have g1 := get_mk hi
    have m1 := mk_at hi
    rw [hmk] at g1 m1 hin
    have hw : IntKind.i64.wrap ((i : Int) + 1) = (i : Int) + 1 := wr64 (by omega) (by omega)
    have l1 : i + 1 ≤ 140737488355328 := by omega
    have l2 : (i + 1) * 16 ≤ 140737488355328 := by omega
    have hal : (acc.map st).length = i := by rw [List.length_map, ha]
    have ht : List.take i (acc.map st) = acc.map st := List.take_of_length_le (by omega)
    obtain ⟨p0, p1⟩ := par_of m
    have o1 : m.size + (⟨#[46]⟩ : ByteArray).size ≤ 9223372036854775807 := by rw [show (⟨#[46]⟩ : ByteArray).size = 1 from rfl]; omega
    have o2 : m.size + (⟨#[45]⟩ : ByteArray).size ≤ 9223372036854775807 := by rw [show (⟨#[45]⟩ : ByteArray).size = 1 from rfl]; omega
    rw [c0, Nat.zero_add] at hin
    generalize Ds.dash (B m) = n at *
    have hmod : Int.tmod (n : Int) 2 = ((n % 2 : Nat) : Int) := rfl
    generalize acc ++ List.map evM (m :: t) = R at hih ⊢
    unfold tb tN tS sB at hin hih ⊢
    rw [List.map_append, List.map_singleton] at hih
    generalize acc.map st = A at *
    rw [loopW_eq]
    clear ih
    generalize loopW (bd E0 (ev E0) loopW 0 [1, 2, 4, 5] L41b1) = K at hih ⊢
    unfold bd
    by_cases hn : n % 2 = 0
    · rw [p0 hn] at hih
      rw [hn, c0] at hmod
      simpa -implicitDefEqProofs [L41b1, -ByteArray.size_append, hi, hi2, g1, m1, hin, hmod, o1, o2, hw, l1, l2, hal, ht] using hih
    · have h1 : n % 2 = 1 := by omega
      rw [p1 h1] at hih
      rw [h1, show ((1 : Nat) : Int) = 1 from rfl] at hmod
      simpa -implicitDefEqProofs [L41b1, -ByteArray.size_append, hi, hi2, g1, m1, hin, hmod, o1, o2, hw, l1, l2, hal, ht] using hih
theorem even_s (ms : List ByteArray) (hm : ms.length ≤ 100) (hz : ∀ m ∈ ms, m.size ≤ 400) : ev E0 41 [.agg [.lst 1 (ms.map st)]] [] = if okEv ms = true then some (.tup [.agg [.sl 0 0 ms.length], bl true], [some (sB (evn ms))]) else some (.tup [.agg [.v (.slice none 0 0)], bl false], []) := by
  have h1 := table_s ms (by omega) (fun x hx => by have := hz x hx; omega)
  have h2 := table_s (evn ms) (by unfold evn; rw [List.length_map]; omega) (fun x hx => by have := evn_sz hz x hx; omega)
  have h3 := evS1 ms hm hz ms 0 [] rfl rfl (by omega)
  rw [c0, List.nil_append] at h3
  change _ = some (Ex.ext 0, (⟨[(2, .ptr 0 0 0), (4, .ptr 1 0 0)], [some tN, some (tS 2 ms.length), some (sB (evn ms))]⟩ : St)) at h3
  have hl : (evn ms).length = ms.length := by unfold evn; rw [List.length_map]
  unfold okEv
  generalize evn ms = E at *
  have ht : List.take ms.length (E.map st) = E.map st := List.take_of_length_le (by rw [List.length_map]; omega)
  unfold tb tN tS sB at *
  rw [show List.map st [] = [] from rfl] at h3
  rw [e41]
  unfold runF
  cases ho : okTable ms with
  | false =>
    rw [ho] at h1
    simp -implicitDefEqProofs [L41, h1]
  | true =>
    rw [ho] at h1
    cases hc : okTable E with
    | false =>
      rw [hc] at h2
      simp -implicitDefEqProofs [L41, h1, h2, h3, ht, hl]
    | true =>
      rw [hc] at h2
      simp -implicitDefEqProofs [L41, h1, h2, h3, ht, hl]
end Go.Proofs.YtodcochnciadjaaDoor.Ev
