/- The draws of messages and signals. -/
import Derived.Test.YtgecnbafmlecjaaGreatDoorEvMDr
import Derived.Test.YtgecnbafmlecjaaGreatDoorEvExact
set_option linter.unusedVariables false
set_option linter.unusedSimpArgs false
namespace Go.Proofs.YtgecnbafmlecjaaGreatDoor.Ev.Dr
/-- A letter as a text. -/
def letB (k : Int) : ByteArray := ⟨#[UInt8.ofNat (IntKind.u8.wrap (97 + k)).toNat]⟩
theorem letB_sz (k : Int) : (letB k).size = 1 := rfl
theorem letter_s (k : Int) (h0 : 0 ≤ k) (h1 : k ≤ 1000000) : ev E0 52 [i64 k] [] = some (st (letB k), []) := by
  have hw : IntKind.i64.wrap (97 + k) = 97 + k := wr64 (by omega) (by omega)
  rw [e52]
  unfold runF letB
  simp -implicitDefEqProofs [L52, hw, b2sR, b2sL, bytesOf]
theorem message_loop (x : List Int) (hx : okC x) (H : Hp) (id : Nat) (a0 s0 : Int) (h : hget H id = some (cu x a0 s0)) (hs : Stable H) (many : Int) (hmany : 1 ≤ many ∧ many ≤ 1000) : ∀ (k : Nat) (a s : Int) (m : ByteArray), 0 ≤ a → a + 4 * k ≤ 500000000000 → m.size + k ≤ 1000 →
    ∃ (a' s' : Int) (m' : ByteArray), a ≤ a' ∧ a' ≤ a + 4 * k ∧ m'.size ≤ m.size + k ∧
    packX H.length [0, 5, 6] (loopW (bd E0 (ev E0) loopW H.length [0, 5, 6, 7] L24b0) ⟨[(0, .ptr id 0 0), (5, st m), (6, i64 many), (7, i64 k)], H.set id (some (cu x a s))⟩) = some (.ext 0, ⟨[(0, .ptr id 0 0), (5, st m'), (6, i64 many)], H.set id (some (cu x a' s'))⟩) := by
  have hid := id_lt h
  have hP := pe_cu h hs
  have hP0 := pe_cu0 h hs
  intro k
  induction k with
  | zero =>
    intro a s m h0 h1 h2
    refine ⟨a, s, m, by omega, by omega, by omega, ?_⟩
    rw [loopW_eq]
    generalize loopW (bd E0 (ev E0) loopW H.length [0, 5, 6, 7] L24b0) = K
    simp -implicitDefEqProofs [bd, L24b0, -packH, hP0, hP, hid]
  | succ k ih =>
    intro a s m h0 h1 h2
    have hsa := stable_cu hs h a s
    have hga : hget (H.set id (some (cu x a s))) id = some (cu x a s) := hget_cu hid
    have hw : IntKind.i64.wrap (((k + 1 : Nat) : Int) - 1) = k := by rw [wr64 (by omega) (by omega)]; omega
    rw [cs1] at hw
    have hp0 : (0 : Int) < (k : Int) + 1 := by omega
    have hp1 : 0 < k + 1 := by omega
    have hw2 : IntKind.i64.wrap (k : Int) = k := wr64 (by omega) (by omega)
    -- a letter more, drawn behind a state
    have letter : ∀ (a1 s1 : Int), a ≤ a1 → a1 ≤ a + 2 → ∃ (a' s' : Int) (m' : ByteArray) (a2 s2 r : Int), a ≤ a' ∧ a' ≤ a + 4 * (k + 1 : Nat) ∧ m'.size ≤ m.size + (k + 1) ∧ m.size + (letB r).size ≤ 9223372036854775807 ∧ ev E0 52 [i64 r] [] = some (st (letB r), []) ∧
        ev E0 40 [.ptr id 0 0, i64 many] (H.set id (some (cu x a1 s1))) = some (i64 r, H.set id (some (cu x a2 s2))) ∧
        packX H.length [0, 5, 6] (loopW (bd E0 (ev E0) loopW H.length [0, 5, 6, 7] L24b0) ⟨[(0, .ptr id 0 0), (5, st (m ++ letB r)), (6, i64 many), (7, i64 k)], H.set id (some (cu x a2 s2))⟩) = some (.ext 0, ⟨[(0, .ptr id 0 0), (5, st m'), (6, i64 many)], H.set id (some (cu x a' s'))⟩) := by
      intro a1 s1 l1 l2
      obtain ⟨a2, s2, r, p1, p2, r0, r1, e⟩ := pick_ok x hx _ id a1 s1 (hget_cu hid) (stable_cu hs h a1 s1) (by omega) (by omega) many
      rw [List.set_set] at e
      have hz : (m ++ letB r).size = m.size + 1 := by rw [ByteArray.size_append, letB_sz]
      obtain ⟨a', s', m', k1, k2, k3, k4⟩ := ih a2 s2 (m ++ letB r) (by omega) (by omega) (by omega)
      exact ⟨a', s', m', a2, s2, r, by omega, by omega, by omega, by rw [letB_sz]; omega, letter_s r (by omega) (by omega), e, k4⟩
    rw [loopW_eq]
    cases hz : m.size with
    | zero =>
      obtain ⟨a', s', m', a2, s2, r, k1, k2, k3, k4, k5, k6, k7⟩ := letter a s (by omega) (by omega)
      refine ⟨a', s', m', k1, k2, by omega, ?_⟩
      rw [hz, Nat.zero_add] at k4
      rw [cs1]
      generalize loopW (bd E0 (ev E0) loopW H.length [0, 5, 6, 7] L24b0) = K at k7 ⊢
      simpa -implicitDefEqProofs [bd, L24b0, hp0, hp1, hz, k4, k5, k6, hw, hw2, -packH, hP, hP0, hid] using k7
    | succ z =>
      have hz0 : (0 : Int) < (z : Int) + 1 := by omega
      have hwz : IntKind.i64.wrap (z : Int) = z := wr64 (by omega) (by omega)
      have hz1 : (z : Int) < (z : Int) + 1 := by omega
      by_cases hk : 1 < (k : Int) + 1
      · by_cases h32 : (m.data.toList.getD z 0).toNat = 32
        · have h32' : ((m.data.toList.getD z 0).toNat : Int) = 32 := by omega
          obtain ⟨a', s', m', a2, s2, r, k1, k2, k3, k4, k5, k6, k7⟩ := letter a s (by omega) (by omega)
          refine ⟨a', s', m', k1, k2, by omega, ?_⟩
          rw [hz] at k4
          rw [cs1]
          generalize loopW (bd E0 (ev E0) loopW H.length [0, 5, 6, 7] L24b0) = K at k7 ⊢
          simpa -implicitDefEqProofs [bd, L24b0, -List.getD_eq_getElem?_getD, hp0, hp1, hz, hz0, hwz, hz1, hk, h32, h32', k4, k5, k6, hw, hw2, -packH, hP, hP0, hid] using k7
        · have h32' : ¬ ((m.data.toList.getD z 0).toNat : Int) = 32 := by omega
          obtain ⟨a1, s1, q, q1, q2, e1⟩ := one_ok x hx _ id a s hga hsa h0 (by omega) 4
          rw [List.set_set] at e1
          cases q with
          | false =>
            obtain ⟨a', s', m', a2, s2, r, k1, k2, k3, k4, k5, k6, k7⟩ := letter a1 s1 q1 q2
            refine ⟨a', s', m', k1, k2, by omega, ?_⟩
            rw [hz] at k4
            rw [cs1]
            generalize loopW (bd E0 (ev E0) loopW H.length [0, 5, 6, 7] L24b0) = K at k7 ⊢
            simpa -implicitDefEqProofs [bd, L24b0, -List.getD_eq_getElem?_getD, hp0, hp1, hz, hz0, hwz, hz1, hk, h32, h32', e1, k4, k5, k6, hw, hw2, -packH, hP, hP0, hid] using k7
          | true =>
            have o1 : (⟨#[32]⟩ : ByteArray).size = 1 := rfl
            have z1 : z + 1 + (⟨#[32]⟩ : ByteArray).size ≤ 9223372036854775807 := by omega
            obtain ⟨a', s', m', k1, k2, k3, k4⟩ := ih a1 s1 (m ++ ⟨#[32]⟩) (by omega) (by omega) (by rw [ByteArray.size_append]; omega)
            refine ⟨a', s', m', by omega, by omega, by rw [ByteArray.size_append] at k3; omega, ?_⟩
            rw [cs1]
            generalize loopW (bd E0 (ev E0) loopW H.length [0, 5, 6, 7] L24b0) = K at k4 ⊢
            simpa -implicitDefEqProofs [bd, L24b0, -List.getD_eq_getElem?_getD, hp0, hp1, hz, hz0, hwz, hz1, hk, h32, h32', e1, z1, hw, hw2, -packH, hP, hP0, hid] using k4
      · obtain ⟨a', s', m', a2, s2, r, k1, k2, k3, k4, k5, k6, k7⟩ := letter a s (by omega) (by omega)
        refine ⟨a', s', m', k1, k2, by omega, ?_⟩
        have hk0 : k = 0 := by omega
        subst hk0
        rw [hz] at k4
        generalize loopW (bd E0 (ev E0) loopW H.length [0, 5, 6, 7] L24b0) = K at k7 ⊢
        have hw : IntKind.i64.wrap 0 = 0 := by decide
        simpa -implicitDefEqProofs [bd, L24b0, -List.getD_eq_getElem?_getD, hz, hz0, k4, k5, k6, hw, -packH, hP, hP0, hid] using k7
theorem message_ok (x : List Int) (hx : okC x) (H : Hp) (id : Nat) (a s : Int) (h : hget H id = some (cu x a s)) (hs : Stable H) (h0 : 0 ≤ a) (h1 : a ≤ 200000000000) (ms : List ByteArray) (hm : ms.length ≤ 500) (T : AV) (hT : TabM H id ms T) :
    ∃ (a' s' : Int) (m : ByteArray), a ≤ a' ∧ a' ≤ a + 100 ∧ m.size ≤ 30 ∧ ev E0 24 [.ptr id 0 0, .agg [T]] H = some (st m, H.set id (some (cu x a' s'))) := by
  have hid := id_lt h
  have hP := pe_cu h hs
  have hP0 := pe_cu0 h hs
  have hse : H.set id (some (cu x a s)) = H := set_same h
  have hsm := most_d 1 (ms.length : Int)
  have hml : ∃ many : Int, (if (ms.length : Int) < 1 then (1 : Int) else (ms.length : Int)) = many ∧ 1 ≤ many ∧ many ≤ 1000 := ⟨_, rfl, by split <;> omega, by split <;> omega⟩
  obtain ⟨many, hmq, hmb⟩ := hml
  rw [hmq] at hsm
  obtain ⟨a1, s1, k, p1, q1, hk, e1⟩ := among_fx x hx H [some (tv T), some (ib [3, 5, 2, 1, 8, 0, 12])] id a s h (by
    have h1 := stable_leaf (stable_tv hs hT) (b := ib [3, 5, 2, 1, 8, 0, 12]) ⟨rfl, fun _ => rfl⟩
    rwa [List.append_assoc] at h1) h0 (by omega) 1 [3, 5, 2, 1, 8, 0, 12] 7 rfl (by decide) rfl
  obtain ⟨n, rfl⟩ : ∃ n : Nat, k = n := ⟨k.toNat, by simp only [List.mem_cons, List.not_mem_nil, or_false] at hk; omega⟩
  have hn : n ≤ 12 := by simp only [List.mem_cons, List.not_mem_nil, or_false] at hk; omega
  obtain ⟨a2, s2, m, p2, q2, zm, e2⟩ := message_loop x hx H id a s h hs many hmb n a1 s1 ⟨#[]⟩ (by omega) (by omega) (by show 0 + _ ≤ _; omega)
  have hz : (⟨#[]⟩ : ByteArray).size = 0 := rfl
  rw [hz] at zm
  have hs2 := stable_cu hs h a2 s2
  have hg2 : hget (H.set id (some (cu x a2 s2))) id = some (cu x a2 s2) := hget_cu hid
  obtain ⟨a3, s3, r, p3, q3, r0, r1, e3⟩ := pick_ok x hx _ id a2 s2 hg2 hs2 (by omega) (by omega) 50
  rw [List.set_set] at e3
  have hs3 := stable_cu hs h a3 s3
  have hg3 : hget (H.set id (some (cu x a3 s3))) id = some (cu x a3 s3) := hget_cu hid
  obtain ⟨a4, s4, u, p4, q4, u0, u1, e4⟩ := pick_ok x hx _ id a3 s3 hg3 hs3 (by omega) (by omega) 13
  rw [List.set_set] at e4
  have hl := letter_s many (by omega) (by omega)
  have o1 : (⟨#[32]⟩ : ByteArray).size = 1 := rfl
  have z1 : m.size + (⟨#[32]⟩ : ByteArray).size ≤ 9223372036854775807 := by omega
  have z2 : m.size + (letB many).size ≤ 9223372036854775807 := by rw [letB_sz]; omega
  have o3 : (⟨#[97, 97, 97, 97, 97, 97, 97, 97, 97, 97, 97, 97, 97]⟩ : ByteArray).size = 13 := rfl
  unfold tv ib at e1
  simp only [List.map_cons, List.map_nil] at e1
  obtain ⟨v, rfl⟩ : ∃ v : Nat, u = v := ⟨u.toNat, by omega⟩
  have hwv : IntKind.i64.wrap (1 + (v : Int)) = ((v + 1 : Nat) : Int) := by rw [wr64 (by omega) (by omega)]; omega
  have hv1 : v + 1 ≤ 13 := by omega
  have hv2 : (0 : Int) ≤ (v : Int) + 1 ∧ (v : Int) + 1 ≤ 13 := by omega
  obtain ⟨A, hA⟩ : ∃ A, (⟨#[97, 97, 97, 97, 97, 97, 97, 97, 97, 97, 97, 97, 97]⟩ : ByteArray).extract 0 (v + 1) = A := ⟨_, rfl⟩
  have zA : A.size ≤ 13 := by rw [← hA, ByteArray.size_extract]; omega
  have z3 : m.size + A.size ≤ 9223372036854775807 := by omega
  rw [e24]
  unfold runF
  by_cases hr0 : r = 0
  · refine ⟨a3, s3, m ++ ⟨#[32]⟩, by omega, by omega, by rw [ByteArray.size_append]; omega, ?_⟩
    rcases hT with ⟨rfl, rfl⟩ | ⟨j, ro, rfl, hjn, hjb⟩
    · simp only [List.length_nil] at hsm
      rw [c0] at hsm
      simp -implicitDefEqProofs [-ByteArray.size_append, L24, hsm, e1, e2, e3, hr0, z1, -packH, hP, hP0, hid, nlt_add, List.idxOf?, List.findIdx?_cons]
    · have hj := id_lt hjb
      have hlv := tab_live hjn hjb
      have hlv2 := hget_some (hget_app (ex := [some (⟨26, 1, 0, false, [.agg [.sl j 0 ms.length]]⟩ : Blk)]) hjb)
      simp -implicitDefEqProofs [-ByteArray.size_append, L24, hsm, hlv2, e1, e2, e3, hr0, z1, -packH, hP, hP0, hid, hj, nlt_add, List.idxOf?, List.findIdx?_cons]
  · by_cases hr1 : r = 1
    · refine ⟨a3, s3, m ++ letB many, by omega, by omega, by rw [ByteArray.size_append, letB_sz]; omega, ?_⟩
      rcases hT with ⟨rfl, rfl⟩ | ⟨j, ro, rfl, hjn, hjb⟩
      · simp only [List.length_nil] at hsm
        rw [c0] at hsm
        simp -implicitDefEqProofs [-ByteArray.size_append, L24, hsm, e1, e2, e3, hr0, hr1, hl, z2, -packH, hP, hP0, hid, nlt_add, List.idxOf?, List.findIdx?_cons]
      · have hj := id_lt hjb
        have hlv2 := hget_some (hget_app (ex := [some (⟨26, 1, 0, false, [.agg [.sl j 0 ms.length]]⟩ : Blk)]) hjb)
        simp -implicitDefEqProofs [-ByteArray.size_append, L24, hsm, hlv2, e1, e2, e3, hr0, hr1, hl, z2, -packH, hP, hP0, hid, hj, nlt_add, List.idxOf?, List.findIdx?_cons]
    · by_cases hr2 : r = 2
      · refine ⟨a4, s4, m ++ A, by omega, by omega, by rw [ByteArray.size_append]; omega, ?_⟩
        rcases hT with ⟨rfl, rfl⟩ | ⟨j, ro, rfl, hjn, hjb⟩
        · simp only [List.length_nil] at hsm
          rw [c0] at hsm
          simp -implicitDefEqProofs [-ByteArray.size_append, L24, hsm, e1, e2, e3, e4, hr0, hr1, hr2, hwv, hv1, hv2.1, hv2.2, o3, hA, z3, -packH, hP, hP0, hid, nlt_add, List.idxOf?, List.findIdx?_cons]
        · have hj := id_lt hjb
          have hlv2 := hget_some (hget_app (ex := [some (⟨26, 1, 0, false, [.agg [.sl j 0 ms.length]]⟩ : Blk)]) hjb)
          simp -implicitDefEqProofs [-ByteArray.size_append, L24, hsm, hlv2, e1, e2, e3, e4, hr0, hr1, hr2, hwv, hv1, hv2.1, hv2.2, o3, hA, z3, -packH, hP, hP0, hid, hj, nlt_add, List.idxOf?, List.findIdx?_cons]
      · refine ⟨a3, s3, m, by omega, by omega, by omega, ?_⟩
        rcases hT with ⟨rfl, rfl⟩ | ⟨j, ro, rfl, hjn, hjb⟩
        · simp only [List.length_nil] at hsm
          rw [c0] at hsm
          simp -implicitDefEqProofs [-ByteArray.size_append, L24, hsm, e1, e2, e3, hr0, hr1, hr2, -packH, hP, hP0, hid, nlt_add, List.idxOf?, List.findIdx?_cons]
        · have hj := id_lt hjb
          have hlv2 := hget_some (hget_app (ex := [some (⟨26, 1, 0, false, [.agg [.sl j 0 ms.length]]⟩ : Blk)]) hjb)
          simp -implicitDefEqProofs [-ByteArray.size_append, L24, hsm, hlv2, e1, e2, e3, hr0, hr1, hr2, -packH, hP, hP0, hid, hj, nlt_add, List.idxOf?, List.findIdx?_cons]
theorem enc_sz (ms : List ByteArray) (hz : ∀ m ∈ ms, m.size ≤ 20) (s : ByteArray) (hs : s.size ≤ 12) : (enc ms s).size ≤ 252 := by
  have h := encL_sz hz s (B s) 0 ⟨#[]⟩
  have h0 : (⟨#[]⟩ : ByteArray).size = 0 := rfl
  rw [B_len, h0] at h
  unfold enc
  omega
end Go.Proofs.YtgecnbafmlecjaaGreatDoor.Ev.Dr
