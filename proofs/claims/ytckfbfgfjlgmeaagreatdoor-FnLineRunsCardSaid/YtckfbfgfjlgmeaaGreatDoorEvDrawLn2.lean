/- The draw of a line. -/
import Derived.Test.YtckfbfgfjlgmeaaGreatDoorEvDrawLn1
set_option linter.unusedVariables false
set_option linter.unusedSimpArgs false
set_option maxHeartbeats 4000000
namespace Go.Proofs.YtckfbfgfjlgmeaaGreatDoor.Ev.Dr
def ShT (H : Hp) (ms : List ByteArray) (T : AV) (ex : Hp) : Prop := (T = .v (.slice none 0 0) ∧ ms = [] ∧ ex = []) ∨ (T = .sl H.length 0 ms.length ∧ ex = [some (tr ms)])
theorem line_pre (x : List Int) (hx : okC x) (H : Hp) (id : Nat) (a s : Int) (h : hget H id = some (cu x a s)) (hs : Stable H) (h0 : 0 ≤ a) (h1 : a ≤ 90000000000) :
    ∃ (a0 s0 r a1 s1 a2 s2 : Int) (ms : List ByteArray) (T : AV) (ex : Hp) (t : ByteArray), a ≤ a2 ∧ a2 ≤ a + 2300 ∧ 0 ≤ r ∧ r ≤ 3 ∧ t.size ≤ 300 ∧ ShT H ms T ex ∧ (∀ a s : Int, Stable (H.set id (some (cu x a s)) ++ ex)) ∧
      ev E0 81 [.ptr id 0 0, i64 4] H = some (i64 r, H.set id (some (cu x a0 s0))) ∧
      ev E0 102 [.ptr id 0 0] (H.set id (some (cu x a0 s0))) = some (.agg [T], H.set id (some (cu x a1 s1)) ++ ex) ∧
      ev E0 128 [.ptr id 0 0, .agg [T]] (H.set id (some (cu x a1 s1)) ++ ex) = some (st t, H.set id (some (cu x a2 s2)) ++ ex) := by
  have hid := id_lt h
  obtain ⟨a0, s0, r, p0, q0, r0, r1, e0⟩ := pick_ok x hx H id a s h hs h0 (by omega) 4
  have hg0 : hget (H.set id (some (cu x a0 s0))) id = some (cu x a0 s0) := hget_cu hid
  obtain ⟨a1, s1, ms, T, ex, p1, q1, m1, m2, sh, e1⟩ := table_tab x hx _ id a0 s0 hg0 (stable_cu hs h a0 s0) (by omega) (by omega)
  rw [List.set_set, List.length_set] at *
  have hS : ∀ a s : Int, Stable (H.set id (some (cu x a s)) ++ ex) := by
    intro a s
    rcases sh with ⟨_, _, rfl⟩ | ⟨_, rfl⟩
    · rw [List.append_nil]; exact stable_cu hs h a s
    · exact stable_leaf (stable_cu hs h a s) ⟨by simp [blkIds, tr], fun _ => by simp [rnmB, tr]⟩
  have hg1 : hget (H.set id (some (cu x a1 s1))) id = some (cu x a1 s1) := hget_cu hid
  obtain ⟨a2, s2, t, p2, q2, z2, e2⟩ := signal_ok x hx (H.set id (some (cu x a1 s1)) ++ ex) id a1 s1 (hget_app hg1) (hS a1 s1) (by omega) (by omega) ms (by omega) m2 T (by
    rcases sh with ⟨rfl, rfl, rfl⟩ | ⟨rfl, rfl⟩
    · exact .inl ⟨rfl, rfl⟩
    · refine .inr ⟨H.length, false, rfl, by omega, ?_⟩
      unfold hget
      rw [List.getElem?_append_right (by rw [List.length_set]; omega), List.length_set, Nat.sub_self]
      rfl)
  rw [set_app hg1, List.set_set] at e2
  exact ⟨a0, s0, r, a1, s1, a2, s2, ms, T, ex, t, by omega, by omega, by omega, by omega, by omega, sh, hS, e0, e1, e2⟩
def L5 : ByteArray := ⟨#[49, 48, 49, 49, 49]⟩
theorem line_ok (x : List Int) (hx : okC x) (H : Hp) (id : Nat) (a s : Int) (h : hget H id = some (cu x a s)) (hs : Stable H) (h0 : 0 ≤ a) (h1 : a ≤ 90000000000) :
    ∃ (a' s' : Int) (l : ByteArray), a ≤ a' ∧ a' ≤ a + 3000 ∧ l.size ≤ 10000 ∧ ev E0 78 [.ptr id 0 0] H = some (st l, H.set id (some (cu x a' s'))) := by
  have hid := id_lt h
  have hP := pe_cu h hs
  have hP0 := pe_cu0 h hs
  obtain ⟨a0, s0, w, a1, s1, a2, s2, ms, T, ex, t, p2, q2, w0, w3, z2, sh, hS, e0, e1, e2⟩ := line_pre x hx H id a s h hs h0 h1
  have hg : ∀ a s : Int, hget (H.set id (some (cu x a s))) id = some (cu x a s) := fun a s => hget_cu hid
  have e3 := signal_s t (by omega)
  obtain ⟨lo, zo, eo⟩ := of_ex t (by omega)
  have h5 : (⟨#[49, 48, 49, 49, 49]⟩ : ByteArray).size = 5 := rfl
  -- the text behind the signal
  have pk : ∀ (l : ByteArray) (a s : Int) (n : Int), 0 ≤ a → a ≤ 100000000000 → ∃ a' s' r : Int, a ≤ a' ∧ a' ≤ a + 2 ∧ 0 ≤ r ∧ (r < n ∨ r = 0) ∧ ev E0 81 [.ptr id 0 0, i64 n] (H.set id (some (cu x a s)) ++ ex) = some (i64 r, H.set id (some (cu x a' s')) ++ ex) := by
    intro l a s n k0 k1
    obtain ⟨a', s', r, p, q, r0, r1, e⟩ := pick_fx x hx _ ex id a s (hg a s) (hS a s) k0 (by omega) n
    rw [List.set_set] at e
    exact ⟨a', s', r, p, q, r0, r1, e⟩
  have pk0 : ∀ (a s : Int) (n : Int), 0 ≤ a → a ≤ 100000000000 → ∃ a' s' r : Int, a ≤ a' ∧ a' ≤ a + 2 ∧ 0 ≤ r ∧ (r < n ∨ r = 0) ∧ ev E0 81 [.ptr id 0 0, i64 n] (H.set id (some (cu x a s))) = some (i64 r, H.set id (some (cu x a' s'))) := by
    intro a s n k0 k1
    obtain ⟨a', s', r, p, q, r0, r1, e⟩ := pick_ok x hx _ id a s (hg a s) (stable_cu hs h a s) k0 (by omega) n
    rw [List.set_set] at e
    exact ⟨a', s', r, p, q, r0, r1, e⟩
  have sp : ∀ (l : ByteArray) (a s : Int), 0 ≤ a → a ≤ 100000000000 → l.size ≤ 8000 → ∃ (a' s' : Int) (l' : ByteArray), a ≤ a' ∧ a' ≤ a + 6 ∧ l'.size ≤ l.size + 1 ∧ ev E0 115 [.ptr id 0 0, st l, st ⟨#[48, 49, 120]⟩] (H.set id (some (cu x a s)) ++ ex) = some (st l', H.set id (some (cu x a' s')) ++ ex) := by
    intro l a s k0 k1 k2
    obtain ⟨a', s', l', p, q, z, e⟩ := spoilt_ok x hx (H.set id (some (cu x a s)) ++ ex) id a s (hget_app (hg a s)) (hS a s) k0 (by omega) l ⟨#[48, 49, 120]⟩ (by omega) (by decide) (by decide)
    rw [set_app (hg a s), List.set_set] at e
    exact ⟨a', s', l', p, q, z, e⟩
  rw [e78]
  unfold runF
  have c0x : ((0 : Nat) : Int) = 0 := rfl
  cases ho : okSig t with
  | false =>
    rw [ho] at e3
    by_cases d0 : w = 0
    · subst d0
      obtain ⟨a4, s4, l4, p4, q4, z4, e4⟩ := sp (⟨#[49, 48, 49, 49, 49]⟩ : ByteArray) a2 s2 (by omega) (by omega) (by omega)
      obtain ⟨a7, s7, r7, p7, q7, r70, r71, e7⟩ := pk ⟨#[]⟩ a4 s4 60 (by omega) (by omega)
      by_cases c0 : r7 = 0
      · subst c0
        obtain ⟨a8, s8, r8, p8, q8, r80, r81, e8⟩ := pk ⟨#[]⟩ a7 s7 5 (by omega) (by omega)
        obtain ⟨n8, rfl⟩ : ∃ n : Nat, r8 = n := ⟨r8.toNat, by omega⟩
        obtain ⟨g, zg, eg⟩ := many_g ⟨#[48]⟩ (by decide) n8 (by omega)
        refine ⟨a8, s8, g, by omega, by omega, by omega, ?_⟩
        rcases sh with ⟨rfl, rfl, rfl⟩ | ⟨rfl, rfl⟩
        · simp only [List.append_nil] at e0 e1 e2 e3 e4 e7 e8 eg
          simp (maxSteps := 1000000) -implicitDefEqProofs [L78, e0, e1, e2, e3, e4, e7, e8, eg, -packH, hP, hP0, hid, nlt_add, List.idxOf?, List.findIdx?_cons]
        · simp (maxSteps := 1000000) -implicitDefEqProofs [L78, e0, e1, e2, e3, e4, e7, e8, eg, -packH, hP, hP0, hid, nlt_add, List.idxOf?, List.findIdx?_cons]
      · by_cases c1 : r7 = 1
        · subst c1
          obtain ⟨a8, s8, r8, p8, q8, r80, r81, e8⟩ := pk ⟨#[]⟩ a7 s7 2 (by omega) (by omega)
          obtain ⟨n8, rfl⟩ : ∃ n : Nat, r8 = n := ⟨r8.toNat, by omega⟩
          obtain ⟨g, zg, eg⟩ := many_g ⟨#[49, 48]⟩ (by decide) (100 + n8) (by omega)
          have hw8 : IntKind.i64.wrap (100 + (n8 : Int)) = 100 + (n8 : Int) := wr64 (by omega) (by omega)
          rw [show ((100 + n8 : Nat) : Int) = 100 + (n8 : Int) by omega] at eg
          refine ⟨a8, s8, g, by omega, by omega, by omega, ?_⟩
          rcases sh with ⟨rfl, rfl, rfl⟩ | ⟨rfl, rfl⟩
          · simp only [List.append_nil] at e0 e1 e2 e3 e4 e7 e8 eg
            simp (maxSteps := 1000000) -implicitDefEqProofs [L78, e0, e1, e2, e3, e4, e7, e8, eg, hw8, -packH, hP, hP0, hid, nlt_add, List.idxOf?, List.findIdx?_cons]
          · simp (maxSteps := 1000000) -implicitDefEqProofs [L78, e0, e1, e2, e3, e4, e7, e8, eg, hw8, -packH, hP, hP0, hid, nlt_add, List.idxOf?, List.findIdx?_cons]
        · refine ⟨a7, s7, l4, by omega, by omega, by omega, ?_⟩
          rcases sh with ⟨rfl, rfl, rfl⟩ | ⟨rfl, rfl⟩
          · simp only [List.append_nil] at e0 e1 e2 e3 e4 e7
            simp (maxSteps := 1000000) -implicitDefEqProofs [L78, e0, e1, e2, e3, e4, e7, c0, c1, -packH, hP, hP0, hid, nlt_add, List.idxOf?, List.findIdx?_cons]
          · simp (maxSteps := 1000000) -implicitDefEqProofs [L78, e0, e1, e2, e3, e4, e7, c0, c1, -packH, hP, hP0, hid, nlt_add, List.idxOf?, List.findIdx?_cons]
    · by_cases d1 : w = 1
      · subst d1
        obtain ⟨a4, s4, r4, p4, q4, r40, r41, e4⟩ := pk ⟨#[]⟩ a2 s2 3 (by omega) (by omega)
        obtain ⟨n4, rfl⟩ : ∃ n : Nat, r4 = n := ⟨r4.toNat, by omega⟩
        have hw4 : IntKind.i64.wrap (2 + (n4 : Int)) = 2 + (n4 : Int) := wr64 (by omega) (by omega)
        have hn4 : n4 ≤ 2 := by omega
        obtain ⟨m, hm⟩ : ∃ m : Nat, ((((⟨#[49, 48, 49, 49, 49]⟩ : ByteArray)).size : Nat) : Int) * (2 + (n4 : Int)) = m := ⟨((⟨#[49, 48, 49, 49, 49]⟩ : ByteArray)).size * (2 + n4), by rw [Int.natCast_mul]; rfl⟩
        have hmb : 2 * ((⟨#[49, 48, 49, 49, 49]⟩ : ByteArray)).size ≤ m ∧ m ≤ 40000 := by
          rcases (show n4 = 0 ∨ n4 = 1 ∨ n4 = 2 by omega) with rfl | rfl | rfl <;> omega
        have hw5 : IntKind.i64.wrap (m : Int) = m := wr64 (by omega) (by omega)
        have hw6 : IntKind.i64.wrap ((m : Int) + 2) = (m : Int) + 2 := wr64 (by omega) (by omega)
        have hm2 := hm
        by_cases hc : (m : Int) + 2 ≤ 200
        · obtain ⟨u, zu, eu⟩ := stretch_loop x H id a s h hs a4 s4 ((⟨#[49, 48, 49, 49, 49]⟩ : ByteArray)) (by omega) (2 + n4) (by omega) ((⟨#[49, 48, 49, 49, 49]⟩ : ByteArray)).size 0 ⟨#[48]⟩ (by omega) (by decide)
          rw [show ((2 + n4 : Nat) : Int) = 2 + (n4 : Int) by omega, c0x] at eu
          have zz : (⟨#[48]⟩ : ByteArray).size = 1 := rfl
          have hzu : u.size + (⟨#[48]⟩ : ByteArray).size ≤ 9223372036854775807 := by omega
          obtain ⟨a7, s7, r7, p7, q7, r70, r71, e7⟩ := pk0 a4 s4 60 (by omega) (by omega)
          by_cases c0 : r7 = 0
          · subst c0
            obtain ⟨a8, s8, r8, p8, q8, r80, r81, e8⟩ := pk0 a7 s7 5 (by omega) (by omega)
            obtain ⟨n8, rfl⟩ : ∃ n : Nat, r8 = n := ⟨r8.toNat, by omega⟩
            obtain ⟨g, zg, eg⟩ := many_g ⟨#[48]⟩ (by decide) n8 (by omega)
            refine ⟨a8, s8, g, by omega, by omega, by omega, ?_⟩
            rcases sh with ⟨rfl, rfl, rfl⟩ | ⟨rfl, rfl⟩
            · simp only [List.append_nil] at e0 e1 e2 e3 e4 eu e7 e8 eg
              simp (maxSteps := 1000000) -implicitDefEqProofs [L78, e0, e1, e2, e3, e4, eu, e7, e8, eg, hw4, hw5, hw6, hm2, hc, hzu, -packH, hP, hP0, hid, nlt_add, List.idxOf?, List.findIdx?_cons]
            · simp (maxSteps := 1000000) -implicitDefEqProofs [L78, e0, e1, e2, e3, e4, eu, e7, e8, eg, hw4, hw5, hw6, hm2, hc, hzu, -packH, hP, hP0, hid, nlt_add, List.idxOf?, List.findIdx?_cons]
          · by_cases c1 : r7 = 1
            · subst c1
              obtain ⟨a8, s8, r8, p8, q8, r80, r81, e8⟩ := pk0 a7 s7 2 (by omega) (by omega)
              obtain ⟨n8, rfl⟩ : ∃ n : Nat, r8 = n := ⟨r8.toNat, by omega⟩
              obtain ⟨g, zg, eg⟩ := many_g ⟨#[49, 48]⟩ (by decide) (100 + n8) (by omega)
              have hw8 : IntKind.i64.wrap (100 + (n8 : Int)) = 100 + (n8 : Int) := wr64 (by omega) (by omega)
              rw [show ((100 + n8 : Nat) : Int) = 100 + (n8 : Int) by omega] at eg
              refine ⟨a8, s8, g, by omega, by omega, by omega, ?_⟩
              rcases sh with ⟨rfl, rfl, rfl⟩ | ⟨rfl, rfl⟩
              · simp only [List.append_nil] at e0 e1 e2 e3 e4 eu e7 e8 eg
                simp (maxSteps := 1000000) -implicitDefEqProofs [L78, e0, e1, e2, e3, e4, eu, e7, e8, eg, hw4, hw5, hw6, hm2, hc, hzu, hw8, -packH, hP, hP0, hid, nlt_add, List.idxOf?, List.findIdx?_cons]
              · simp (maxSteps := 1000000) -implicitDefEqProofs [L78, e0, e1, e2, e3, e4, eu, e7, e8, eg, hw4, hw5, hw6, hm2, hc, hzu, hw8, -packH, hP, hP0, hid, nlt_add, List.idxOf?, List.findIdx?_cons]
            · refine ⟨a7, s7, u ++ ⟨#[48]⟩, by omega, by omega, by rw [ByteArray.size_append]; omega, ?_⟩
              rcases sh with ⟨rfl, rfl, rfl⟩ | ⟨rfl, rfl⟩
              · simp only [List.append_nil] at e0 e1 e2 e3 e4 eu e7
                simp (maxSteps := 1000000) -implicitDefEqProofs [L78, e0, e1, e2, e3, e4, eu, e7, hw4, hw5, hw6, hm2, hc, hzu, c0, c1, -packH, hP, hP0, hid, nlt_add, List.idxOf?, List.findIdx?_cons]
              · simp (maxSteps := 1000000) -implicitDefEqProofs [L78, e0, e1, e2, e3, e4, eu, e7, hw4, hw5, hw6, hm2, hc, hzu, c0, c1, -packH, hP, hP0, hid, nlt_add, List.idxOf?, List.findIdx?_cons]
        · obtain ⟨a7, s7, r7, p7, q7, r70, r71, e7⟩ := pk ⟨#[]⟩ a4 s4 60 (by omega) (by omega)
          by_cases c0 : r7 = 0
          · subst c0
            obtain ⟨a8, s8, r8, p8, q8, r80, r81, e8⟩ := pk ⟨#[]⟩ a7 s7 5 (by omega) (by omega)
            obtain ⟨n8, rfl⟩ : ∃ n : Nat, r8 = n := ⟨r8.toNat, by omega⟩
            obtain ⟨g, zg, eg⟩ := many_g ⟨#[48]⟩ (by decide) n8 (by omega)
            refine ⟨a8, s8, g, by omega, by omega, by omega, ?_⟩
            rcases sh with ⟨rfl, rfl, rfl⟩ | ⟨rfl, rfl⟩
            · simp only [List.append_nil] at e0 e1 e2 e3 e4 e7 e8 eg
              simp (maxSteps := 1000000) -implicitDefEqProofs [L78, e0, e1, e2, e3, e4, e7, e8, eg, hw4, hw5, hw6, hm2, hc, -packH, hP, hP0, hid, nlt_add, List.idxOf?, List.findIdx?_cons]
            · simp (maxSteps := 1000000) -implicitDefEqProofs [L78, e0, e1, e2, e3, e4, e7, e8, eg, hw4, hw5, hw6, hm2, hc, -packH, hP, hP0, hid, nlt_add, List.idxOf?, List.findIdx?_cons]
          · by_cases c1 : r7 = 1
            · subst c1
              obtain ⟨a8, s8, r8, p8, q8, r80, r81, e8⟩ := pk ⟨#[]⟩ a7 s7 2 (by omega) (by omega)
              obtain ⟨n8, rfl⟩ : ∃ n : Nat, r8 = n := ⟨r8.toNat, by omega⟩
              obtain ⟨g, zg, eg⟩ := many_g ⟨#[49, 48]⟩ (by decide) (100 + n8) (by omega)
              have hw8 : IntKind.i64.wrap (100 + (n8 : Int)) = 100 + (n8 : Int) := wr64 (by omega) (by omega)
              rw [show ((100 + n8 : Nat) : Int) = 100 + (n8 : Int) by omega] at eg
              refine ⟨a8, s8, g, by omega, by omega, by omega, ?_⟩
              rcases sh with ⟨rfl, rfl, rfl⟩ | ⟨rfl, rfl⟩
              · simp only [List.append_nil] at e0 e1 e2 e3 e4 e7 e8 eg
                simp (maxSteps := 1000000) -implicitDefEqProofs [L78, e0, e1, e2, e3, e4, e7, e8, eg, hw4, hw5, hw6, hm2, hc, hw8, -packH, hP, hP0, hid, nlt_add, List.idxOf?, List.findIdx?_cons]
              · simp (maxSteps := 1000000) -implicitDefEqProofs [L78, e0, e1, e2, e3, e4, e7, e8, eg, hw4, hw5, hw6, hm2, hc, hw8, -packH, hP, hP0, hid, nlt_add, List.idxOf?, List.findIdx?_cons]
            · refine ⟨a7, s7, (⟨#[49, 48, 49, 49, 49]⟩ : ByteArray), by omega, by omega, by omega, ?_⟩
              rcases sh with ⟨rfl, rfl, rfl⟩ | ⟨rfl, rfl⟩
              · simp only [List.append_nil] at e0 e1 e2 e3 e4 e7
                simp (maxSteps := 1000000) -implicitDefEqProofs [L78, e0, e1, e2, e3, e4, e7, hw4, hw5, hw6, hm2, hc, c0, c1, -packH, hP, hP0, hid, nlt_add, List.idxOf?, List.findIdx?_cons]
              · simp (maxSteps := 1000000) -implicitDefEqProofs [L78, e0, e1, e2, e3, e4, e7, hw4, hw5, hw6, hm2, hc, c0, c1, -packH, hP, hP0, hid, nlt_add, List.idxOf?, List.findIdx?_cons]
      · obtain ⟨a7, s7, r7, p7, q7, r70, r71, e7⟩ := pk ⟨#[]⟩ a2 s2 60 (by omega) (by omega)
        by_cases c0 : r7 = 0
        · subst c0
          obtain ⟨a8, s8, r8, p8, q8, r80, r81, e8⟩ := pk ⟨#[]⟩ a7 s7 5 (by omega) (by omega)
          obtain ⟨n8, rfl⟩ : ∃ n : Nat, r8 = n := ⟨r8.toNat, by omega⟩
          obtain ⟨g, zg, eg⟩ := many_g ⟨#[48]⟩ (by decide) n8 (by omega)
          refine ⟨a8, s8, g, by omega, by omega, by omega, ?_⟩
          rcases sh with ⟨rfl, rfl, rfl⟩ | ⟨rfl, rfl⟩
          · simp only [List.append_nil] at e0 e1 e2 e3 e7 e8 eg
            simp (maxSteps := 1000000) -implicitDefEqProofs [L78, e0, e1, e2, e3, e7, e8, eg, d0, d1, -packH, hP, hP0, hid, nlt_add, List.idxOf?, List.findIdx?_cons]
          · simp (maxSteps := 1000000) -implicitDefEqProofs [L78, e0, e1, e2, e3, e7, e8, eg, d0, d1, -packH, hP, hP0, hid, nlt_add, List.idxOf?, List.findIdx?_cons]
        · by_cases c1 : r7 = 1
          · subst c1
            obtain ⟨a8, s8, r8, p8, q8, r80, r81, e8⟩ := pk ⟨#[]⟩ a7 s7 2 (by omega) (by omega)
            obtain ⟨n8, rfl⟩ : ∃ n : Nat, r8 = n := ⟨r8.toNat, by omega⟩
            obtain ⟨g, zg, eg⟩ := many_g ⟨#[49, 48]⟩ (by decide) (100 + n8) (by omega)
            have hw8 : IntKind.i64.wrap (100 + (n8 : Int)) = 100 + (n8 : Int) := wr64 (by omega) (by omega)
            rw [show ((100 + n8 : Nat) : Int) = 100 + (n8 : Int) by omega] at eg
            refine ⟨a8, s8, g, by omega, by omega, by omega, ?_⟩
            rcases sh with ⟨rfl, rfl, rfl⟩ | ⟨rfl, rfl⟩
            · simp only [List.append_nil] at e0 e1 e2 e3 e7 e8 eg
              simp (maxSteps := 1000000) -implicitDefEqProofs [L78, e0, e1, e2, e3, e7, e8, eg, d0, d1, hw8, -packH, hP, hP0, hid, nlt_add, List.idxOf?, List.findIdx?_cons]
            · simp (maxSteps := 1000000) -implicitDefEqProofs [L78, e0, e1, e2, e3, e7, e8, eg, d0, d1, hw8, -packH, hP, hP0, hid, nlt_add, List.idxOf?, List.findIdx?_cons]
          · refine ⟨a7, s7, (⟨#[49, 48, 49, 49, 49]⟩ : ByteArray), by omega, by omega, by omega, ?_⟩
            rcases sh with ⟨rfl, rfl, rfl⟩ | ⟨rfl, rfl⟩
            · simp only [List.append_nil] at e0 e1 e2 e3 e7
              simp (maxSteps := 1000000) -implicitDefEqProofs [L78, e0, e1, e2, e3, e7, d0, d1, c0, c1, -packH, hP, hP0, hid, nlt_add, List.idxOf?, List.findIdx?_cons]
            · simp (maxSteps := 1000000) -implicitDefEqProofs [L78, e0, e1, e2, e3, e7, d0, d1, c0, c1, -packH, hP, hP0, hid, nlt_add, List.idxOf?, List.findIdx?_cons]
  | true =>
    rw [ho] at e3
    obtain ⟨v, ev1⟩ := time_ex t (by omega) ho
    by_cases hv : v ≤ 200
    · by_cases d0 : w = 0
      · subst d0
        obtain ⟨a4, s4, l4, p4, q4, z4, e4⟩ := sp lo a2 s2 (by omega) (by omega) (by omega)
        obtain ⟨a7, s7, r7, p7, q7, r70, r71, e7⟩ := pk ⟨#[]⟩ a4 s4 60 (by omega) (by omega)
        by_cases c0 : r7 = 0
        · subst c0
          obtain ⟨a8, s8, r8, p8, q8, r80, r81, e8⟩ := pk ⟨#[]⟩ a7 s7 5 (by omega) (by omega)
          obtain ⟨n8, rfl⟩ : ∃ n : Nat, r8 = n := ⟨r8.toNat, by omega⟩
          obtain ⟨g, zg, eg⟩ := many_g ⟨#[48]⟩ (by decide) n8 (by omega)
          refine ⟨a8, s8, g, by omega, by omega, by omega, ?_⟩
          rcases sh with ⟨rfl, rfl, rfl⟩ | ⟨rfl, rfl⟩
          · simp only [List.append_nil] at e0 e1 e2 e3 ev1 eo e4 e7 e8 eg
            simp (maxSteps := 1000000) -implicitDefEqProofs [L78, e0, e1, e2, e3, ev1, eo, e4, e7, e8, eg, hv, -packH, hP, hP0, hid, nlt_add, List.idxOf?, List.findIdx?_cons]
          · simp (maxSteps := 1000000) -implicitDefEqProofs [L78, e0, e1, e2, e3, ev1, eo, e4, e7, e8, eg, hv, -packH, hP, hP0, hid, nlt_add, List.idxOf?, List.findIdx?_cons]
        · by_cases c1 : r7 = 1
          · subst c1
            obtain ⟨a8, s8, r8, p8, q8, r80, r81, e8⟩ := pk ⟨#[]⟩ a7 s7 2 (by omega) (by omega)
            obtain ⟨n8, rfl⟩ : ∃ n : Nat, r8 = n := ⟨r8.toNat, by omega⟩
            obtain ⟨g, zg, eg⟩ := many_g ⟨#[49, 48]⟩ (by decide) (100 + n8) (by omega)
            have hw8 : IntKind.i64.wrap (100 + (n8 : Int)) = 100 + (n8 : Int) := wr64 (by omega) (by omega)
            rw [show ((100 + n8 : Nat) : Int) = 100 + (n8 : Int) by omega] at eg
            refine ⟨a8, s8, g, by omega, by omega, by omega, ?_⟩
            rcases sh with ⟨rfl, rfl, rfl⟩ | ⟨rfl, rfl⟩
            · simp only [List.append_nil] at e0 e1 e2 e3 ev1 eo e4 e7 e8 eg
              simp (maxSteps := 1000000) -implicitDefEqProofs [L78, e0, e1, e2, e3, ev1, eo, e4, e7, e8, eg, hv, hw8, -packH, hP, hP0, hid, nlt_add, List.idxOf?, List.findIdx?_cons]
            · simp (maxSteps := 1000000) -implicitDefEqProofs [L78, e0, e1, e2, e3, ev1, eo, e4, e7, e8, eg, hv, hw8, -packH, hP, hP0, hid, nlt_add, List.idxOf?, List.findIdx?_cons]
          · refine ⟨a7, s7, l4, by omega, by omega, by omega, ?_⟩
            rcases sh with ⟨rfl, rfl, rfl⟩ | ⟨rfl, rfl⟩
            · simp only [List.append_nil] at e0 e1 e2 e3 ev1 eo e4 e7
              simp (maxSteps := 1000000) -implicitDefEqProofs [L78, e0, e1, e2, e3, ev1, eo, e4, e7, hv, c0, c1, -packH, hP, hP0, hid, nlt_add, List.idxOf?, List.findIdx?_cons]
            · simp (maxSteps := 1000000) -implicitDefEqProofs [L78, e0, e1, e2, e3, ev1, eo, e4, e7, hv, c0, c1, -packH, hP, hP0, hid, nlt_add, List.idxOf?, List.findIdx?_cons]
      · by_cases d1 : w = 1
        · subst d1
          obtain ⟨a4, s4, r4, p4, q4, r40, r41, e4⟩ := pk ⟨#[]⟩ a2 s2 3 (by omega) (by omega)
          obtain ⟨n4, rfl⟩ : ∃ n : Nat, r4 = n := ⟨r4.toNat, by omega⟩
          have hw4 : IntKind.i64.wrap (2 + (n4 : Int)) = 2 + (n4 : Int) := wr64 (by omega) (by omega)
          have hn4 : n4 ≤ 2 := by omega
          obtain ⟨m, hm⟩ : ∃ m : Nat, (((lo).size : Nat) : Int) * (2 + (n4 : Int)) = m := ⟨(lo).size * (2 + n4), by rw [Int.natCast_mul]; rfl⟩
          have hmb : 2 * (lo).size ≤ m ∧ m ≤ 40000 := by
            rcases (show n4 = 0 ∨ n4 = 1 ∨ n4 = 2 by omega) with rfl | rfl | rfl <;> omega
          have hw5 : IntKind.i64.wrap (m : Int) = m := wr64 (by omega) (by omega)
          have hw6 : IntKind.i64.wrap ((m : Int) + 2) = (m : Int) + 2 := wr64 (by omega) (by omega)
          have hm2 := hm
          by_cases hc : (m : Int) + 2 ≤ 200
          · obtain ⟨u, zu, eu⟩ := stretch_loop x H id a s h hs a4 s4 (lo) (by omega) (2 + n4) (by omega) (lo).size 0 ⟨#[48]⟩ (by omega) (by decide)
            rw [show ((2 + n4 : Nat) : Int) = 2 + (n4 : Int) by omega, c0x] at eu
            have zz : (⟨#[48]⟩ : ByteArray).size = 1 := rfl
            have hzu : u.size + (⟨#[48]⟩ : ByteArray).size ≤ 9223372036854775807 := by omega
            obtain ⟨a7, s7, r7, p7, q7, r70, r71, e7⟩ := pk0 a4 s4 60 (by omega) (by omega)
            by_cases c0 : r7 = 0
            · subst c0
              obtain ⟨a8, s8, r8, p8, q8, r80, r81, e8⟩ := pk0 a7 s7 5 (by omega) (by omega)
              obtain ⟨n8, rfl⟩ : ∃ n : Nat, r8 = n := ⟨r8.toNat, by omega⟩
              obtain ⟨g, zg, eg⟩ := many_g ⟨#[48]⟩ (by decide) n8 (by omega)
              refine ⟨a8, s8, g, by omega, by omega, by omega, ?_⟩
              rcases sh with ⟨rfl, rfl, rfl⟩ | ⟨rfl, rfl⟩
              · simp only [List.append_nil] at e0 e1 e2 e3 ev1 eo e4 eu e7 e8 eg
                simp (maxSteps := 1000000) -implicitDefEqProofs [L78, e0, e1, e2, e3, ev1, eo, e4, eu, e7, e8, eg, hv, hw4, hw5, hw6, hm2, hc, hzu, -packH, hP, hP0, hid, nlt_add, List.idxOf?, List.findIdx?_cons]
              · simp (maxSteps := 1000000) -implicitDefEqProofs [L78, e0, e1, e2, e3, ev1, eo, e4, eu, e7, e8, eg, hv, hw4, hw5, hw6, hm2, hc, hzu, -packH, hP, hP0, hid, nlt_add, List.idxOf?, List.findIdx?_cons]
            · by_cases c1 : r7 = 1
              · subst c1
                obtain ⟨a8, s8, r8, p8, q8, r80, r81, e8⟩ := pk0 a7 s7 2 (by omega) (by omega)
                obtain ⟨n8, rfl⟩ : ∃ n : Nat, r8 = n := ⟨r8.toNat, by omega⟩
                obtain ⟨g, zg, eg⟩ := many_g ⟨#[49, 48]⟩ (by decide) (100 + n8) (by omega)
                have hw8 : IntKind.i64.wrap (100 + (n8 : Int)) = 100 + (n8 : Int) := wr64 (by omega) (by omega)
                rw [show ((100 + n8 : Nat) : Int) = 100 + (n8 : Int) by omega] at eg
                refine ⟨a8, s8, g, by omega, by omega, by omega, ?_⟩
                rcases sh with ⟨rfl, rfl, rfl⟩ | ⟨rfl, rfl⟩
                · simp only [List.append_nil] at e0 e1 e2 e3 ev1 eo e4 eu e7 e8 eg
                  simp (maxSteps := 1000000) -implicitDefEqProofs [L78, e0, e1, e2, e3, ev1, eo, e4, eu, e7, e8, eg, hv, hw4, hw5, hw6, hm2, hc, hzu, hw8, -packH, hP, hP0, hid, nlt_add, List.idxOf?, List.findIdx?_cons]
                · simp (maxSteps := 1000000) -implicitDefEqProofs [L78, e0, e1, e2, e3, ev1, eo, e4, eu, e7, e8, eg, hv, hw4, hw5, hw6, hm2, hc, hzu, hw8, -packH, hP, hP0, hid, nlt_add, List.idxOf?, List.findIdx?_cons]
              · refine ⟨a7, s7, u ++ ⟨#[48]⟩, by omega, by omega, by rw [ByteArray.size_append]; omega, ?_⟩
                rcases sh with ⟨rfl, rfl, rfl⟩ | ⟨rfl, rfl⟩
                · simp only [List.append_nil] at e0 e1 e2 e3 ev1 eo e4 eu e7
                  simp (maxSteps := 1000000) -implicitDefEqProofs [L78, e0, e1, e2, e3, ev1, eo, e4, eu, e7, hv, hw4, hw5, hw6, hm2, hc, hzu, c0, c1, -packH, hP, hP0, hid, nlt_add, List.idxOf?, List.findIdx?_cons]
                · simp (maxSteps := 1000000) -implicitDefEqProofs [L78, e0, e1, e2, e3, ev1, eo, e4, eu, e7, hv, hw4, hw5, hw6, hm2, hc, hzu, c0, c1, -packH, hP, hP0, hid, nlt_add, List.idxOf?, List.findIdx?_cons]
          · obtain ⟨a7, s7, r7, p7, q7, r70, r71, e7⟩ := pk ⟨#[]⟩ a4 s4 60 (by omega) (by omega)
            by_cases c0 : r7 = 0
            · subst c0
              obtain ⟨a8, s8, r8, p8, q8, r80, r81, e8⟩ := pk ⟨#[]⟩ a7 s7 5 (by omega) (by omega)
              obtain ⟨n8, rfl⟩ : ∃ n : Nat, r8 = n := ⟨r8.toNat, by omega⟩
              obtain ⟨g, zg, eg⟩ := many_g ⟨#[48]⟩ (by decide) n8 (by omega)
              refine ⟨a8, s8, g, by omega, by omega, by omega, ?_⟩
              rcases sh with ⟨rfl, rfl, rfl⟩ | ⟨rfl, rfl⟩
              · simp only [List.append_nil] at e0 e1 e2 e3 ev1 eo e4 e7 e8 eg
                simp (maxSteps := 1000000) -implicitDefEqProofs [L78, e0, e1, e2, e3, ev1, eo, e4, e7, e8, eg, hv, hw4, hw5, hw6, hm2, hc, -packH, hP, hP0, hid, nlt_add, List.idxOf?, List.findIdx?_cons]
              · simp (maxSteps := 1000000) -implicitDefEqProofs [L78, e0, e1, e2, e3, ev1, eo, e4, e7, e8, eg, hv, hw4, hw5, hw6, hm2, hc, -packH, hP, hP0, hid, nlt_add, List.idxOf?, List.findIdx?_cons]
            · by_cases c1 : r7 = 1
              · subst c1
                obtain ⟨a8, s8, r8, p8, q8, r80, r81, e8⟩ := pk ⟨#[]⟩ a7 s7 2 (by omega) (by omega)
                obtain ⟨n8, rfl⟩ : ∃ n : Nat, r8 = n := ⟨r8.toNat, by omega⟩
                obtain ⟨g, zg, eg⟩ := many_g ⟨#[49, 48]⟩ (by decide) (100 + n8) (by omega)
                have hw8 : IntKind.i64.wrap (100 + (n8 : Int)) = 100 + (n8 : Int) := wr64 (by omega) (by omega)
                rw [show ((100 + n8 : Nat) : Int) = 100 + (n8 : Int) by omega] at eg
                refine ⟨a8, s8, g, by omega, by omega, by omega, ?_⟩
                rcases sh with ⟨rfl, rfl, rfl⟩ | ⟨rfl, rfl⟩
                · simp only [List.append_nil] at e0 e1 e2 e3 ev1 eo e4 e7 e8 eg
                  simp (maxSteps := 1000000) -implicitDefEqProofs [L78, e0, e1, e2, e3, ev1, eo, e4, e7, e8, eg, hv, hw4, hw5, hw6, hm2, hc, hw8, -packH, hP, hP0, hid, nlt_add, List.idxOf?, List.findIdx?_cons]
                · simp (maxSteps := 1000000) -implicitDefEqProofs [L78, e0, e1, e2, e3, ev1, eo, e4, e7, e8, eg, hv, hw4, hw5, hw6, hm2, hc, hw8, -packH, hP, hP0, hid, nlt_add, List.idxOf?, List.findIdx?_cons]
              · refine ⟨a7, s7, lo, by omega, by omega, by omega, ?_⟩
                rcases sh with ⟨rfl, rfl, rfl⟩ | ⟨rfl, rfl⟩
                · simp only [List.append_nil] at e0 e1 e2 e3 ev1 eo e4 e7
                  simp (maxSteps := 1000000) -implicitDefEqProofs [L78, e0, e1, e2, e3, ev1, eo, e4, e7, hv, hw4, hw5, hw6, hm2, hc, c0, c1, -packH, hP, hP0, hid, nlt_add, List.idxOf?, List.findIdx?_cons]
                · simp (maxSteps := 1000000) -implicitDefEqProofs [L78, e0, e1, e2, e3, ev1, eo, e4, e7, hv, hw4, hw5, hw6, hm2, hc, c0, c1, -packH, hP, hP0, hid, nlt_add, List.idxOf?, List.findIdx?_cons]
        · obtain ⟨a7, s7, r7, p7, q7, r70, r71, e7⟩ := pk ⟨#[]⟩ a2 s2 60 (by omega) (by omega)
          by_cases c0 : r7 = 0
          · subst c0
            obtain ⟨a8, s8, r8, p8, q8, r80, r81, e8⟩ := pk ⟨#[]⟩ a7 s7 5 (by omega) (by omega)
            obtain ⟨n8, rfl⟩ : ∃ n : Nat, r8 = n := ⟨r8.toNat, by omega⟩
            obtain ⟨g, zg, eg⟩ := many_g ⟨#[48]⟩ (by decide) n8 (by omega)
            refine ⟨a8, s8, g, by omega, by omega, by omega, ?_⟩
            rcases sh with ⟨rfl, rfl, rfl⟩ | ⟨rfl, rfl⟩
            · simp only [List.append_nil] at e0 e1 e2 e3 ev1 eo e7 e8 eg
              simp (maxSteps := 1000000) -implicitDefEqProofs [L78, e0, e1, e2, e3, ev1, eo, e7, e8, eg, hv, d0, d1, -packH, hP, hP0, hid, nlt_add, List.idxOf?, List.findIdx?_cons]
            · simp (maxSteps := 1000000) -implicitDefEqProofs [L78, e0, e1, e2, e3, ev1, eo, e7, e8, eg, hv, d0, d1, -packH, hP, hP0, hid, nlt_add, List.idxOf?, List.findIdx?_cons]
          · by_cases c1 : r7 = 1
            · subst c1
              obtain ⟨a8, s8, r8, p8, q8, r80, r81, e8⟩ := pk ⟨#[]⟩ a7 s7 2 (by omega) (by omega)
              obtain ⟨n8, rfl⟩ : ∃ n : Nat, r8 = n := ⟨r8.toNat, by omega⟩
              obtain ⟨g, zg, eg⟩ := many_g ⟨#[49, 48]⟩ (by decide) (100 + n8) (by omega)
              have hw8 : IntKind.i64.wrap (100 + (n8 : Int)) = 100 + (n8 : Int) := wr64 (by omega) (by omega)
              rw [show ((100 + n8 : Nat) : Int) = 100 + (n8 : Int) by omega] at eg
              refine ⟨a8, s8, g, by omega, by omega, by omega, ?_⟩
              rcases sh with ⟨rfl, rfl, rfl⟩ | ⟨rfl, rfl⟩
              · simp only [List.append_nil] at e0 e1 e2 e3 ev1 eo e7 e8 eg
                simp (maxSteps := 1000000) -implicitDefEqProofs [L78, e0, e1, e2, e3, ev1, eo, e7, e8, eg, hv, d0, d1, hw8, -packH, hP, hP0, hid, nlt_add, List.idxOf?, List.findIdx?_cons]
              · simp (maxSteps := 1000000) -implicitDefEqProofs [L78, e0, e1, e2, e3, ev1, eo, e7, e8, eg, hv, d0, d1, hw8, -packH, hP, hP0, hid, nlt_add, List.idxOf?, List.findIdx?_cons]
            · refine ⟨a7, s7, lo, by omega, by omega, by omega, ?_⟩
              rcases sh with ⟨rfl, rfl, rfl⟩ | ⟨rfl, rfl⟩
              · simp only [List.append_nil] at e0 e1 e2 e3 ev1 eo e7
                simp (maxSteps := 1000000) -implicitDefEqProofs [L78, e0, e1, e2, e3, ev1, eo, e7, hv, d0, d1, c0, c1, -packH, hP, hP0, hid, nlt_add, List.idxOf?, List.findIdx?_cons]
              · simp (maxSteps := 1000000) -implicitDefEqProofs [L78, e0, e1, e2, e3, ev1, eo, e7, hv, d0, d1, c0, c1, -packH, hP, hP0, hid, nlt_add, List.idxOf?, List.findIdx?_cons]
    · by_cases d0 : w = 0
      · subst d0
        obtain ⟨a4, s4, l4, p4, q4, z4, e4⟩ := sp (⟨#[49, 48, 49, 49, 49]⟩ : ByteArray) a2 s2 (by omega) (by omega) (by omega)
        obtain ⟨a7, s7, r7, p7, q7, r70, r71, e7⟩ := pk ⟨#[]⟩ a4 s4 60 (by omega) (by omega)
        by_cases c0 : r7 = 0
        · subst c0
          obtain ⟨a8, s8, r8, p8, q8, r80, r81, e8⟩ := pk ⟨#[]⟩ a7 s7 5 (by omega) (by omega)
          obtain ⟨n8, rfl⟩ : ∃ n : Nat, r8 = n := ⟨r8.toNat, by omega⟩
          obtain ⟨g, zg, eg⟩ := many_g ⟨#[48]⟩ (by decide) n8 (by omega)
          refine ⟨a8, s8, g, by omega, by omega, by omega, ?_⟩
          rcases sh with ⟨rfl, rfl, rfl⟩ | ⟨rfl, rfl⟩
          · simp only [List.append_nil] at e0 e1 e2 e3 ev1 e4 e7 e8 eg
            simp (maxSteps := 1000000) -implicitDefEqProofs [L78, e0, e1, e2, e3, ev1, e4, e7, e8, eg, hv, -packH, hP, hP0, hid, nlt_add, List.idxOf?, List.findIdx?_cons]
          · simp (maxSteps := 1000000) -implicitDefEqProofs [L78, e0, e1, e2, e3, ev1, e4, e7, e8, eg, hv, -packH, hP, hP0, hid, nlt_add, List.idxOf?, List.findIdx?_cons]
        · by_cases c1 : r7 = 1
          · subst c1
            obtain ⟨a8, s8, r8, p8, q8, r80, r81, e8⟩ := pk ⟨#[]⟩ a7 s7 2 (by omega) (by omega)
            obtain ⟨n8, rfl⟩ : ∃ n : Nat, r8 = n := ⟨r8.toNat, by omega⟩
            obtain ⟨g, zg, eg⟩ := many_g ⟨#[49, 48]⟩ (by decide) (100 + n8) (by omega)
            have hw8 : IntKind.i64.wrap (100 + (n8 : Int)) = 100 + (n8 : Int) := wr64 (by omega) (by omega)
            rw [show ((100 + n8 : Nat) : Int) = 100 + (n8 : Int) by omega] at eg
            refine ⟨a8, s8, g, by omega, by omega, by omega, ?_⟩
            rcases sh with ⟨rfl, rfl, rfl⟩ | ⟨rfl, rfl⟩
            · simp only [List.append_nil] at e0 e1 e2 e3 ev1 e4 e7 e8 eg
              simp (maxSteps := 1000000) -implicitDefEqProofs [L78, e0, e1, e2, e3, ev1, e4, e7, e8, eg, hv, hw8, -packH, hP, hP0, hid, nlt_add, List.idxOf?, List.findIdx?_cons]
            · simp (maxSteps := 1000000) -implicitDefEqProofs [L78, e0, e1, e2, e3, ev1, e4, e7, e8, eg, hv, hw8, -packH, hP, hP0, hid, nlt_add, List.idxOf?, List.findIdx?_cons]
          · refine ⟨a7, s7, l4, by omega, by omega, by omega, ?_⟩
            rcases sh with ⟨rfl, rfl, rfl⟩ | ⟨rfl, rfl⟩
            · simp only [List.append_nil] at e0 e1 e2 e3 ev1 e4 e7
              simp (maxSteps := 1000000) -implicitDefEqProofs [L78, e0, e1, e2, e3, ev1, e4, e7, hv, c0, c1, -packH, hP, hP0, hid, nlt_add, List.idxOf?, List.findIdx?_cons]
            · simp (maxSteps := 1000000) -implicitDefEqProofs [L78, e0, e1, e2, e3, ev1, e4, e7, hv, c0, c1, -packH, hP, hP0, hid, nlt_add, List.idxOf?, List.findIdx?_cons]
      · by_cases d1 : w = 1
        · subst d1
          obtain ⟨a4, s4, r4, p4, q4, r40, r41, e4⟩ := pk ⟨#[]⟩ a2 s2 3 (by omega) (by omega)
          obtain ⟨n4, rfl⟩ : ∃ n : Nat, r4 = n := ⟨r4.toNat, by omega⟩
          have hw4 : IntKind.i64.wrap (2 + (n4 : Int)) = 2 + (n4 : Int) := wr64 (by omega) (by omega)
          have hn4 : n4 ≤ 2 := by omega
          obtain ⟨m, hm⟩ : ∃ m : Nat, ((((⟨#[49, 48, 49, 49, 49]⟩ : ByteArray)).size : Nat) : Int) * (2 + (n4 : Int)) = m := ⟨((⟨#[49, 48, 49, 49, 49]⟩ : ByteArray)).size * (2 + n4), by rw [Int.natCast_mul]; rfl⟩
          have hmb : 2 * ((⟨#[49, 48, 49, 49, 49]⟩ : ByteArray)).size ≤ m ∧ m ≤ 40000 := by
            rcases (show n4 = 0 ∨ n4 = 1 ∨ n4 = 2 by omega) with rfl | rfl | rfl <;> omega
          have hw5 : IntKind.i64.wrap (m : Int) = m := wr64 (by omega) (by omega)
          have hw6 : IntKind.i64.wrap ((m : Int) + 2) = (m : Int) + 2 := wr64 (by omega) (by omega)
          have hm2 := hm
          by_cases hc : (m : Int) + 2 ≤ 200
          · obtain ⟨u, zu, eu⟩ := stretch_loop x H id a s h hs a4 s4 ((⟨#[49, 48, 49, 49, 49]⟩ : ByteArray)) (by omega) (2 + n4) (by omega) ((⟨#[49, 48, 49, 49, 49]⟩ : ByteArray)).size 0 ⟨#[48]⟩ (by omega) (by decide)
            rw [show ((2 + n4 : Nat) : Int) = 2 + (n4 : Int) by omega, c0x] at eu
            have zz : (⟨#[48]⟩ : ByteArray).size = 1 := rfl
            have hzu : u.size + (⟨#[48]⟩ : ByteArray).size ≤ 9223372036854775807 := by omega
            obtain ⟨a7, s7, r7, p7, q7, r70, r71, e7⟩ := pk0 a4 s4 60 (by omega) (by omega)
            by_cases c0 : r7 = 0
            · subst c0
              obtain ⟨a8, s8, r8, p8, q8, r80, r81, e8⟩ := pk0 a7 s7 5 (by omega) (by omega)
              obtain ⟨n8, rfl⟩ : ∃ n : Nat, r8 = n := ⟨r8.toNat, by omega⟩
              obtain ⟨g, zg, eg⟩ := many_g ⟨#[48]⟩ (by decide) n8 (by omega)
              refine ⟨a8, s8, g, by omega, by omega, by omega, ?_⟩
              rcases sh with ⟨rfl, rfl, rfl⟩ | ⟨rfl, rfl⟩
              · simp only [List.append_nil] at e0 e1 e2 e3 ev1 e4 eu e7 e8 eg
                simp (maxSteps := 1000000) -implicitDefEqProofs [L78, e0, e1, e2, e3, ev1, e4, eu, e7, e8, eg, hv, hw4, hw5, hw6, hm2, hc, hzu, -packH, hP, hP0, hid, nlt_add, List.idxOf?, List.findIdx?_cons]
              · simp (maxSteps := 1000000) -implicitDefEqProofs [L78, e0, e1, e2, e3, ev1, e4, eu, e7, e8, eg, hv, hw4, hw5, hw6, hm2, hc, hzu, -packH, hP, hP0, hid, nlt_add, List.idxOf?, List.findIdx?_cons]
            · by_cases c1 : r7 = 1
              · subst c1
                obtain ⟨a8, s8, r8, p8, q8, r80, r81, e8⟩ := pk0 a7 s7 2 (by omega) (by omega)
                obtain ⟨n8, rfl⟩ : ∃ n : Nat, r8 = n := ⟨r8.toNat, by omega⟩
                obtain ⟨g, zg, eg⟩ := many_g ⟨#[49, 48]⟩ (by decide) (100 + n8) (by omega)
                have hw8 : IntKind.i64.wrap (100 + (n8 : Int)) = 100 + (n8 : Int) := wr64 (by omega) (by omega)
                rw [show ((100 + n8 : Nat) : Int) = 100 + (n8 : Int) by omega] at eg
                refine ⟨a8, s8, g, by omega, by omega, by omega, ?_⟩
                rcases sh with ⟨rfl, rfl, rfl⟩ | ⟨rfl, rfl⟩
                · simp only [List.append_nil] at e0 e1 e2 e3 ev1 e4 eu e7 e8 eg
                  simp (maxSteps := 1000000) -implicitDefEqProofs [L78, e0, e1, e2, e3, ev1, e4, eu, e7, e8, eg, hv, hw4, hw5, hw6, hm2, hc, hzu, hw8, -packH, hP, hP0, hid, nlt_add, List.idxOf?, List.findIdx?_cons]
                · simp (maxSteps := 1000000) -implicitDefEqProofs [L78, e0, e1, e2, e3, ev1, e4, eu, e7, e8, eg, hv, hw4, hw5, hw6, hm2, hc, hzu, hw8, -packH, hP, hP0, hid, nlt_add, List.idxOf?, List.findIdx?_cons]
              · refine ⟨a7, s7, u ++ ⟨#[48]⟩, by omega, by omega, by rw [ByteArray.size_append]; omega, ?_⟩
                rcases sh with ⟨rfl, rfl, rfl⟩ | ⟨rfl, rfl⟩
                · simp only [List.append_nil] at e0 e1 e2 e3 ev1 e4 eu e7
                  simp (maxSteps := 1000000) -implicitDefEqProofs [L78, e0, e1, e2, e3, ev1, e4, eu, e7, hv, hw4, hw5, hw6, hm2, hc, hzu, c0, c1, -packH, hP, hP0, hid, nlt_add, List.idxOf?, List.findIdx?_cons]
                · simp (maxSteps := 1000000) -implicitDefEqProofs [L78, e0, e1, e2, e3, ev1, e4, eu, e7, hv, hw4, hw5, hw6, hm2, hc, hzu, c0, c1, -packH, hP, hP0, hid, nlt_add, List.idxOf?, List.findIdx?_cons]
          · obtain ⟨a7, s7, r7, p7, q7, r70, r71, e7⟩ := pk ⟨#[]⟩ a4 s4 60 (by omega) (by omega)
            by_cases c0 : r7 = 0
            · subst c0
              obtain ⟨a8, s8, r8, p8, q8, r80, r81, e8⟩ := pk ⟨#[]⟩ a7 s7 5 (by omega) (by omega)
              obtain ⟨n8, rfl⟩ : ∃ n : Nat, r8 = n := ⟨r8.toNat, by omega⟩
              obtain ⟨g, zg, eg⟩ := many_g ⟨#[48]⟩ (by decide) n8 (by omega)
              refine ⟨a8, s8, g, by omega, by omega, by omega, ?_⟩
              rcases sh with ⟨rfl, rfl, rfl⟩ | ⟨rfl, rfl⟩
              · simp only [List.append_nil] at e0 e1 e2 e3 ev1 e4 e7 e8 eg
                simp (maxSteps := 1000000) -implicitDefEqProofs [L78, e0, e1, e2, e3, ev1, e4, e7, e8, eg, hv, hw4, hw5, hw6, hm2, hc, -packH, hP, hP0, hid, nlt_add, List.idxOf?, List.findIdx?_cons]
              · simp (maxSteps := 1000000) -implicitDefEqProofs [L78, e0, e1, e2, e3, ev1, e4, e7, e8, eg, hv, hw4, hw5, hw6, hm2, hc, -packH, hP, hP0, hid, nlt_add, List.idxOf?, List.findIdx?_cons]
            · by_cases c1 : r7 = 1
              · subst c1
                obtain ⟨a8, s8, r8, p8, q8, r80, r81, e8⟩ := pk ⟨#[]⟩ a7 s7 2 (by omega) (by omega)
                obtain ⟨n8, rfl⟩ : ∃ n : Nat, r8 = n := ⟨r8.toNat, by omega⟩
                obtain ⟨g, zg, eg⟩ := many_g ⟨#[49, 48]⟩ (by decide) (100 + n8) (by omega)
                have hw8 : IntKind.i64.wrap (100 + (n8 : Int)) = 100 + (n8 : Int) := wr64 (by omega) (by omega)
                rw [show ((100 + n8 : Nat) : Int) = 100 + (n8 : Int) by omega] at eg
                refine ⟨a8, s8, g, by omega, by omega, by omega, ?_⟩
                rcases sh with ⟨rfl, rfl, rfl⟩ | ⟨rfl, rfl⟩
                · simp only [List.append_nil] at e0 e1 e2 e3 ev1 e4 e7 e8 eg
                  simp (maxSteps := 1000000) -implicitDefEqProofs [L78, e0, e1, e2, e3, ev1, e4, e7, e8, eg, hv, hw4, hw5, hw6, hm2, hc, hw8, -packH, hP, hP0, hid, nlt_add, List.idxOf?, List.findIdx?_cons]
                · simp (maxSteps := 1000000) -implicitDefEqProofs [L78, e0, e1, e2, e3, ev1, e4, e7, e8, eg, hv, hw4, hw5, hw6, hm2, hc, hw8, -packH, hP, hP0, hid, nlt_add, List.idxOf?, List.findIdx?_cons]
              · refine ⟨a7, s7, (⟨#[49, 48, 49, 49, 49]⟩ : ByteArray), by omega, by omega, by omega, ?_⟩
                rcases sh with ⟨rfl, rfl, rfl⟩ | ⟨rfl, rfl⟩
                · simp only [List.append_nil] at e0 e1 e2 e3 ev1 e4 e7
                  simp (maxSteps := 1000000) -implicitDefEqProofs [L78, e0, e1, e2, e3, ev1, e4, e7, hv, hw4, hw5, hw6, hm2, hc, c0, c1, -packH, hP, hP0, hid, nlt_add, List.idxOf?, List.findIdx?_cons]
                · simp (maxSteps := 1000000) -implicitDefEqProofs [L78, e0, e1, e2, e3, ev1, e4, e7, hv, hw4, hw5, hw6, hm2, hc, c0, c1, -packH, hP, hP0, hid, nlt_add, List.idxOf?, List.findIdx?_cons]
        · obtain ⟨a7, s7, r7, p7, q7, r70, r71, e7⟩ := pk ⟨#[]⟩ a2 s2 60 (by omega) (by omega)
          by_cases c0 : r7 = 0
          · subst c0
            obtain ⟨a8, s8, r8, p8, q8, r80, r81, e8⟩ := pk ⟨#[]⟩ a7 s7 5 (by omega) (by omega)
            obtain ⟨n8, rfl⟩ : ∃ n : Nat, r8 = n := ⟨r8.toNat, by omega⟩
            obtain ⟨g, zg, eg⟩ := many_g ⟨#[48]⟩ (by decide) n8 (by omega)
            refine ⟨a8, s8, g, by omega, by omega, by omega, ?_⟩
            rcases sh with ⟨rfl, rfl, rfl⟩ | ⟨rfl, rfl⟩
            · simp only [List.append_nil] at e0 e1 e2 e3 ev1 e7 e8 eg
              simp (maxSteps := 1000000) -implicitDefEqProofs [L78, e0, e1, e2, e3, ev1, e7, e8, eg, hv, d0, d1, -packH, hP, hP0, hid, nlt_add, List.idxOf?, List.findIdx?_cons]
            · simp (maxSteps := 1000000) -implicitDefEqProofs [L78, e0, e1, e2, e3, ev1, e7, e8, eg, hv, d0, d1, -packH, hP, hP0, hid, nlt_add, List.idxOf?, List.findIdx?_cons]
          · by_cases c1 : r7 = 1
            · subst c1
              obtain ⟨a8, s8, r8, p8, q8, r80, r81, e8⟩ := pk ⟨#[]⟩ a7 s7 2 (by omega) (by omega)
              obtain ⟨n8, rfl⟩ : ∃ n : Nat, r8 = n := ⟨r8.toNat, by omega⟩
              obtain ⟨g, zg, eg⟩ := many_g ⟨#[49, 48]⟩ (by decide) (100 + n8) (by omega)
              have hw8 : IntKind.i64.wrap (100 + (n8 : Int)) = 100 + (n8 : Int) := wr64 (by omega) (by omega)
              rw [show ((100 + n8 : Nat) : Int) = 100 + (n8 : Int) by omega] at eg
              refine ⟨a8, s8, g, by omega, by omega, by omega, ?_⟩
              rcases sh with ⟨rfl, rfl, rfl⟩ | ⟨rfl, rfl⟩
              · simp only [List.append_nil] at e0 e1 e2 e3 ev1 e7 e8 eg
                simp (maxSteps := 1000000) -implicitDefEqProofs [L78, e0, e1, e2, e3, ev1, e7, e8, eg, hv, d0, d1, hw8, -packH, hP, hP0, hid, nlt_add, List.idxOf?, List.findIdx?_cons]
              · simp (maxSteps := 1000000) -implicitDefEqProofs [L78, e0, e1, e2, e3, ev1, e7, e8, eg, hv, d0, d1, hw8, -packH, hP, hP0, hid, nlt_add, List.idxOf?, List.findIdx?_cons]
            · refine ⟨a7, s7, (⟨#[49, 48, 49, 49, 49]⟩ : ByteArray), by omega, by omega, by omega, ?_⟩
              rcases sh with ⟨rfl, rfl, rfl⟩ | ⟨rfl, rfl⟩
              · simp only [List.append_nil] at e0 e1 e2 e3 ev1 e7
                simp (maxSteps := 1000000) -implicitDefEqProofs [L78, e0, e1, e2, e3, ev1, e7, hv, d0, d1, c0, c1, -packH, hP, hP0, hid, nlt_add, List.idxOf?, List.findIdx?_cons]
              · simp (maxSteps := 1000000) -implicitDefEqProofs [L78, e0, e1, e2, e3, ev1, e7, hv, d0, d1, c0, c1, -packH, hP, hP0, hid, nlt_add, List.idxOf?, List.findIdx?_cons]
end Go.Proofs.YtckfbfgfjlgmeaaGreatDoor.Ev.Dr
