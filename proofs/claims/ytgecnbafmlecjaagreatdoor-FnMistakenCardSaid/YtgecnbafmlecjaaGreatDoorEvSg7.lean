/- Messages without gaps, both programs. -/
import Derived.Test.YtgecnbafmlecjaaGreatDoorEvMSb
import Derived.Test.YtgecnbafmlecjaaGreatDoorEvMTa
set_option linter.unusedVariables false
set_option linter.unusedSimpArgs false
namespace Go.Proofs.YtgecnbafmlecjaaGreatDoor.Ev
/-- The marks of a message's letters. -/
def mAll (ms : List ByteArray) : List UInt8 → List UInt8
  | [] => []
  | c :: t => if c.toNat = 32 then mAll ms t else mrk ms c ++ mAll ms t
def bareM (ms : List ByteArray) (s : ByteArray) : ByteArray := ⟨(mAll ms (B s)).toArray⟩
theorem bare_loop (ms : List ByteArray) (hm : ms.length ≤ 1000) (hz : ∀ m ∈ ms, m.size ≤ 1000) (s : ByteArray) (hs : s.size ≤ 1000) : ∀ (t : List UInt8) (i : Nat) (a : ByteArray), (B s).drop i = t → msgL ms.length s t i = true → a.size ≤ i * 1000 →
    packX 0 [5] (loopW (bd E0 (ev E0) loopW 0 [1, 2, 5, 6] L38b0) ⟨[(1, st s), (2, .ptr 0 0 0), (5, st a), (6, i64 i)], [some (tL1 ms)]⟩) = some (.ext 0, ⟨[(5, st (a ++ ⟨(mAll ms t).toArray⟩))], []⟩) := by
  unfold tL1
  intro t
  induction t with
  | nil =>
    intro i a h _ _
    have hi := byte_end h
    have ha : a ++ (⟨(mAll ms []).toArray⟩ : ByteArray) = a := B_eq (by unfold B; simp [mAll])
    rw [ha, loopW_eq]
    generalize loopW (bd E0 (ev E0) loopW 0 [1, 2, 5, 6] L38b0) = K
    simp -implicitDefEqProofs [bd, L38b0, hi]
  | cons c t ih =>
    intro i a h hv hz2
    obtain ⟨hi, hx, hd⟩ := byte_at h
    rw [msgL, Bool.and_eq_true] at hv
    have hg0 : ∀ h, s.data[i]'h = c := by
      intro _
      have hi2 : i < s.data.toList.length := by simpa using hi
      rw [List.getD_eq_getElem?_getD, List.getElem?_eq_getElem hi2, Option.getD_some] at hx
      exact hx
    have hw : IntKind.i64.wrap ((i : Int) + 1) = (i : Int) + 1 := wr64 (by omega) (by omega)
    by_cases hc : c.toNat = 32
    · have hih := ih (i + 1) a hd hv.2 (Nat.le_trans hz2 (Nat.mul_le_mul_right 1000 (Nat.le_succ i)))
      have hcn : decide ((c.toNat : Int) = 32) = true := decide_eq_true (by omega)
      have hci : (c.toNat : Int) = 32 := by omega
      rw [mAll, if_pos hc, loopW_eq]
      rw [cs1] at hih
      clear ih
      generalize a ++ (⟨(mAll ms t).toArray⟩ : ByteArray) = R at hih ⊢
      generalize loopW (bd E0 (ev E0) loopW 0 [1, 2, 5, 6] L38b0) = K at hih ⊢
      simpa -implicitDefEqProofs [bd, L38b0, hi, hx, hg0, hw, hcn, hci] using hih
    · have hch := hv.1
      unfold chOk at hch
      rw [if_neg hc] at hch
      simp only [Bool.and_eq_true, decide_eq_true_eq] at hch
      have hn : c.toNat - 97 < ms.length := by omega
      have hn2 : ((c.toNat - 97 : Nat) : Int) < (ms.length : Int) := by omega
      have hmk : (mB ms c).size ≤ 1000 := by unfold mB mk_; exact getD_sz hz _
      have hih := ih (i + 1) (a ++ mB ms c) hd hv.2 (by rw [ByteArray.size_append, Nat.succ_mul]; exact Nat.add_le_add hz2 hmk)
      have hci : ¬ (c.toNat : Int) = 32 := by omega
      have hwc : IntKind.i64.wrap (c.toNat : Int) = (c.toNat : Int) := wr64 (by omega) (by have := UInt8.toNat_lt c; omega)
      have hwd : IntKind.i64.wrap ((c.toNat : Int) - 97) = ((c.toNat - 97 : Nat) : Int) := by rw [wr64 (by omega) (by have := UInt8.toNat_lt c; omega)]; omega
      have hg : (ms.map st)[c.toNat - 97]? = some (st (mB ms c)) := by rw [List.getElem?_map, List.getElem?_eq_getElem hn, mk_at hn]; rfl
      have hg2 : ∀ h, (ms.map st)[c.toNat - 97]'h = st (mB ms c) := fun h => (List.getElem?_eq_some_iff.1 hg).2
      have hsz : a.size + (mB ms c).size ≤ 9223372036854775807 := by omega
      have ha : (a ++ mB ms c) ++ (⟨(mAll ms t).toArray⟩ : ByteArray) = a ++ ⟨(mAll ms (c :: t)).toArray⟩ := B_eq (by
        simp only [B_append, B_mk, mAll, if_neg hc, mrk, List.append_assoc])
      rw [ha, cs1] at hih
      rw [loopW_eq]
      clear ih ha h hd
      generalize a ++ (⟨(mAll ms (c :: t)).toArray⟩ : ByteArray) = R at hih ⊢
      generalize mB ms c = fm at *
      generalize hq : c.toNat - 97 = q at *
      generalize loopW (bd E0 (ev E0) loopW 0 [1, 2, 5, 6] L38b0) = K at hih ⊢
      simpa -implicitDefEqProofs [bd, L38b0, hi, hx, hg0, hw, hci, hwc, hwd, hn, hn2, hg, hg2, hsz] using hih
theorem bareS (ms : List ByteArray) (hm : ms.length ≤ 1000) (hz : ∀ m ∈ ms, m.size ≤ 1000) (s : ByteArray) (hs : okMsg ms.length s = true) : ev E0 38 [.agg [.lst 1 (ms.map st)], st s] [] = some (st (bareM ms s), []) := by
  obtain ⟨h1, h2⟩ := okMsg_msgL hs
  have h := bare_loop ms hm hz s (by omega) (B s) 0 ⟨#[]⟩ rfl h1 (by decide)
  have ha : (⟨#[]⟩ : ByteArray) ++ ⟨(mAll ms (B s)).toArray⟩ = bareM ms s := B_eq (by rw [B_append]; rfl)
  rw [c0, ha] at h
  unfold tL1 at h
  rw [e38]
  unfold runF
  simp -implicitDefEqProofs [L38, h]
theorem kept_B (s : ByteArray) : kept s s.size = (B s).filter fun b => !gone b.toNat := by
  unfold kept
  rw [List.take_of_length_le (by simp)]
  rfl
theorem filt_sE (ms : List ByteArray) : ∀ (t : List UInt8) (p : Bool), (∀ c ∈ t, c ≠ 32 → ∀ b ∈ mrk ms c, b = 46 ∨ b = 45) → (sE ms p t).filter (fun b => !gone b.toNat) = mAll ms t
  | [], _, _ => rfl
  | c :: t, p, h => by
    have ih := fun q => filt_sE ms t q (fun d hd => h d (List.mem_cons_of_mem _ hd))
    rw [sE, mAll]
    by_cases hc : c = 32
    · rw [if_pos hc, if_pos ((b32 c).1 hc), List.filter_cons, ih]
      rfl
    · rw [if_neg hc, if_neg (fun e => hc ((b32 c).2 e)), List.filter_append, List.filter_append, ih]
      have h1 : (if p = true then [(32 : UInt8)] else []).filter (fun b => !gone b.toNat) = [] := by cases p <;> rfl
      have h2 : (mrk ms c).filter (fun b => !gone b.toNat) = mrk ms c := List.filter_eq_self.2 fun b hb => by
        rcases h c (List.mem_cons_self ..) hc b hb with rfl | rfl <;> rfl
      rw [h1, h2, List.nil_append]
theorem bare_enc {ms : List ByteArray} (ho : okTable ms = true) (s : ByteArray) (hs : okMsg ms.length s = true) : (⟨(kept (enc ms s) (enc ms s).size).toArray⟩ : ByteArray) = bareM ms s := by
  obtain ⟨h1, h2⟩ := okMsg_msgL hs
  unfold bareM
  rw [kept_B]
  unfold enc
  rw [enc_sE ms s (B s) 0 ⟨#[]⟩ rfl]
  show (⟨(List.filter _ (sE ms (pA s 0) (B s))).toArray⟩ : ByteArray) = _
  rw [filt_sE ms (B s) (pA s 0) (fun c hc h32 b hb => ?_)]
  have hv : c = 32 ∨ okB ms.length c := by
    by_cases he : B s = []
    · rw [he] at hc; cases hc
    · exact vM_mem ms.length (B s) _ (msg_vM ms.length s (B s) 0 rfl h1 (fun e => absurd e he)) c hc
  rcases hv with h | ⟨q1, q2⟩
  · exact absurd h h32
  · have hn : c.toNat - 97 < ms.length := by omega
    have hk := tab_marks ho _ (by rw [← mk_at hn]; exact List.getElem_mem _ : mk_ ms (c.toNat - 97) ∈ ms)
    exact (marks_def.1 hk).1 b hb
end Go.Proofs.YtgecnbafmlecjaaGreatDoor.Ev
