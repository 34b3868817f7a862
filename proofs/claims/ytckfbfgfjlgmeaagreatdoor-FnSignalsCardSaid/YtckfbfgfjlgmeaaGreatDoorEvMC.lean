/- Messages without gaps, both programs. -/
import Derived.Test.YtckfbfgfjlgmeaaGreatDoorEvMB
import Derived.Test.YtckfbfgfjlgmeaaGreatDoorEvTa5
set_option linter.unusedVariables false
set_option linter.unusedSimpArgs false
namespace Go.Proofs.YtckfbfgfjlgmeaaGreatDoor.Ev
/-- The marks of a message's letters. -/
def mAll (ms : List ByteArray) : List UInt8 → List UInt8
  | [] => []
  | c :: t => if c.toNat = 32 then mAll ms t else mrk ms c ++ mAll ms t
def bareM (ms : List ByteArray) (s : ByteArray) : ByteArray := ⟨(mAll ms (B s)).toArray⟩
theorem bare_loop (ms : List ByteArray) (hm : ms.length ≤ 1000) (hz : ∀ m ∈ ms, m.size ≤ 1000) (s : ByteArray) (hs : s.size ≤ 1000) : ∀ (t : List UInt8) (i : Nat) (a : ByteArray), (B s).drop i = t → msgL ms.length s t i = true → a.size ≤ i * 1000 →
    packX 0 [5] (loopW (bd E0 (ev E0) loopW 0 [1, 2, 5, 6] L126b0) ⟨[(1, st s), (2, .ptr 0 0 0), (5, st a), (6, i64 i)], [some (tL1 ms)]⟩) = some (.ext 0, ⟨[(5, st (a ++ ⟨(mAll ms t).toArray⟩))], []⟩) := by
  unfold tL1
  intro t
  induction t with
  | nil =>
    intro i a h _ _
    have hi := byte_end h
    have ha : a ++ (⟨(mAll ms []).toArray⟩ : ByteArray) = a := B_eq (by unfold B; simp [mAll])
    rw [ha, loopW_eq]
    generalize loopW (bd E0 (ev E0) loopW 0 [1, 2, 5, 6] L126b0) = K
    simp -implicitDefEqProofs [bd, L126b0, hi]
  | cons c t ih =>
    intro i a h hv hz2
    obtain ⟨hi, hx, hd⟩ := byte_at h
    rw [msgL, Bool.and_eq_true] at hv
    have hg0 : ∀ h, s.data[i]'h = c := by
      intro _
      have hi2 : i < s.data.toList.length := by simpa using hi
      rw [List.getD_eq_getElem?_getD, List.getElem?_eq_getElem hi2, Option.getD_some] at hx
      exact hx
    have hw : IntKind.i64.wrap ((i : Int) + 1) = (i : Int) + 1 := wr64 (by omega) (by omega)
    by_cases hc : c.toNat = 32
    · have hih := ih (i + 1) a hd hv.2 (Nat.le_trans hz2 (Nat.mul_le_mul_right 1000 (Nat.le_succ i)))
      have hcn : decide ((c.toNat : Int) = 32) = true := decide_eq_true (by omega)
      have hci : (c.toNat : Int) = 32 := by omega
      rw [mAll, if_pos hc, loopW_eq]
      rw [cs1] at hih
      clear ih
      generalize a ++ (⟨(mAll ms t).toArray⟩ : ByteArray) = R at hih ⊢
      generalize loopW (bd E0 (ev E0) loopW 0 [1, 2, 5, 6] L126b0) = K at hih ⊢
      simpa -implicitDefEqProofs [bd, L126b0, hi, hx, hg0, hw, hcn, hci] using hih
    · have hch := hv.1
      unfold chOk at hch
      rw [if_neg hc] at hch
      simp only [Bool.and_eq_true, decide_eq_true_eq] at hch
      have hn : c.toNat - 97 < ms.length := by omega
      have hn2 : ((c.toNat - 97 : Nat) : Int) < (ms.length : Int) := by omega
      have hmk : (mB ms c).size ≤ 1000 := by unfold mB mk_; exact getD_sz hz _
      have hih := ih (i + 1) (a ++ mB ms c) hd hv.2 (by rw [ByteArray.size_append, Nat.succ_mul]; exact Nat.add_le_add hz2 hmk)
      have hci : ¬ (c.toNat : Int) = 32 := by omega
      have hwc : IntKind.i64.wrap (c.toNat : Int) = (c.toNat : Int) := wr64 (by omega) (by have := UInt8.toNat_lt c; omega)
      have hwd : IntKind.i64.wrap ((c.toNat : Int) - 97) = ((c.toNat - 97 : Nat) : Int) := by rw [wr64 (by omega) (by have := UInt8.toNat_lt c; omega)]; omega
      have hg : (ms.map st)[c.toNat - 97]? = some (st (mB ms c)) := by rw [List.getElem?_map, List.getElem?_eq_getElem hn, mk_at hn]; rfl
      have hg2 : ∀ h, (ms.map st)[c.toNat - 97]'h = st (mB ms c) := fun h => (List.getElem?_eq_some_iff.1 hg).2
      have hsz : a.size + (mB ms c).size ≤ 9223372036854775807 := by omega
      have ha : (a ++ mB ms c) ++ (⟨(mAll ms t).toArray⟩ : ByteArray) = a ++ ⟨(mAll ms (c :: t)).toArray⟩ := B_eq (by
        simp only [B_append, B_mk, mAll, if_neg hc, mrk, List.append_assoc])
      rw [ha, cs1] at hih
      rw [loopW_eq]
      clear ih ha h hd
      generalize a ++ (⟨(mAll ms (c :: t)).toArray⟩ : ByteArray) = R at hih ⊢
      generalize mB ms c = fm at *
      generalize hq : c.toNat - 97 = q at *
      generalize loopW (bd E0 (ev E0) loopW 0 [1, 2, 5, 6] L126b0) = K at hih ⊢
      simpa -implicitDefEqProofs [bd, L126b0, hi, hx, hg0, hw, hci, hwc, hwd, hn, hn2, hg, hg2, hsz] using hih
theorem bareS (ms : List ByteArray) (hm : ms.length ≤ 1000) (hz : ∀ m ∈ ms, m.size ≤ 1000) (s : ByteArray) (hs : okMsg ms.length s = true) : ev E0 126 [.agg [.lst 1 (ms.map st)], st s] [] = some (st (bareM ms s), []) := by
  obtain ⟨h1, h2⟩ := okMsg_msgL hs
  have h := bare_loop ms hm hz s (by omega) (B s) 0 ⟨#[]⟩ rfl h1 (by decide)
  have ha : (⟨#[]⟩ : ByteArray) ++ ⟨(mAll ms (B s)).toArray⟩ = bareM ms s := B_eq (by rw [B_append]; rfl)
  rw [c0, ha] at h
  unfold tL1 at h
  rw [e126]
  unfold runF
  simp -implicitDefEqProofs [L126, h]
theorem kept_B (s : ByteArray) : kept s s.size = (B s).filter fun b => !gone b.toNat := by
  unfold kept
  rw [List.take_of_length_le (by simp)]
  rfl
theorem filt_sE (ms : List ByteArray) : ∀ (t : List UInt8) (p : Bool), (∀ c ∈ t, c ≠ 32 → ∀ b ∈ mrk ms c, b = 46 ∨ b = 45) → (sE ms p t).filter (fun b => !gone b.toNat) = mAll ms t
  | [], _, _ => rfl
  | c :: t, p, h => by
    have ih := fun q => filt_sE ms t q (fun d hd => h d (List.mem_cons_of_mem _ hd))
    rw [sE, mAll]
    by_cases hc : c = 32
    · rw [if_pos hc, if_pos ((b32 c).1 hc), List.filter_cons, ih]
      rfl
    · rw [if_neg hc, if_neg (fun e => hc ((b32 c).2 e)), List.filter_append, List.filter_append, ih]
      have h1 : (if p = true then [(32 : UInt8)] else []).filter (fun b => !gone b.toNat) = [] := by cases p <;> rfl
      have h2 : (mrk ms c).filter (fun b => !gone b.toNat) = mrk ms c := List.filter_eq_self.2 fun b hb => by
        rcases h c (List.mem_cons_self ..) hc b hb with rfl | rfl <;> rfl
      rw [h1, h2, List.nil_append]
theorem bare_enc {ms : List ByteArray} (ho : okTable ms = true) (s : ByteArray) (hs : okMsg ms.length s = true) : (⟨(kept (enc ms s) (enc ms s).size).toArray⟩ : ByteArray) = bareM ms s := by
  obtain ⟨h1, h2⟩ := okMsg_msgL hs
  unfold bareM
  rw [kept_B]
  unfold enc
  rw [enc_sE ms s (B s) 0 ⟨#[]⟩ rfl]
  show (⟨(List.filter _ (sE ms (pA s 0) (B s))).toArray⟩ : ByteArray) = _
  rw [filt_sE ms (B s) (pA s 0) (fun c hc h32 b hb => ?_)]
  have hv : c = 32 ∨ okB ms.length c := by
    by_cases he : B s = []
    · rw [he] at hc; cases hc
    · exact vM_mem ms.length (B s) _ (msg_vM ms.length s (B s) 0 rfl h1 (fun e => absurd e he)) c hc
  rcases hv with h | ⟨q1, q2⟩
  · exact absurd h h32
  · have hn : c.toNat - 97 < ms.length := by omega
    have hk := tab_marks ho _ (by rw [← mk_at hn]; exact List.getElem_mem _ : mk_ ms (c.toNat - 97) ∈ ms)
    exact (marks_def.1 hk).1 b hb
end Go.Proofs.YtckfbfgfjlgmeaaGreatDoor.Ev

namespace Go.Proofs.YtckfbfgfjlgmeaaGreatDoor.Ev
theorem enc_small {ms : List ByteArray} (ho : okTable ms = true) {s : ByteArray} (hs : okMsg ms.length s = true) : (enc ms s).size ≤ 300 := by
  obtain ⟨h1, h2⟩ := okMsg_msgL hs
  have := encL_sz (tab_sizes ho).2 s (B s) 0 ⟨#[]⟩
  have h0 : (⟨#[]⟩ : ByteArray).size = 0 := rfl
  rw [B_len] at this
  have h3 : s.size * (20 + 1) ≤ 12 * 21 := Nat.mul_le_mul_right 21 h2
  unfold enc
  omega
theorem bareOf_i (ms : List ByteArray) (hn : ms.length ≤ 1000) (hz : ∀ m ∈ ms, m.size ≤ 1000) (s : ByteArray) (hs : s.size ≤ 1000) : ev E0 64 [.agg [.lst 1 (ms.map st)], st s] [] = some (.tup [st (if okTM ms s = true then bareM ms s else ⟨#[]⟩), bl (okTM ms s)], []) := by
  have h1 := areValid_i ms hn hz s hs
  rw [e64]
  unfold runF
  cases ho : okTM ms s with
  | false => rw [ho] at h1; simp -implicitDefEqProofs [L64, h1]
  | true =>
    rw [ho] at h1
    unfold okTM at ho
    rw [Bool.and_eq_true] at ho
    have h3 := tab_sizes ho.1
    have h2 := encodeI ms h3.1 h3.2 s ho.2
    have h4 : ev E0 127 [st (enc ms s)] [] = some (st (bareM ms s), []) := by
      have := enc_small ho.1 ho.2
      rw [e127, bareP, if_pos (by omega), bare_enc ho.1 s ho.2]
    generalize enc ms s = e at *
    generalize bareM ms s = b at *
    simp -implicitDefEqProofs [L64, h1, h2, h4]
theorem bareOf_s (ms : List ByteArray) (hn : ms.length ≤ 1000) (hz : ∀ m ∈ ms, m.size ≤ 1000) (s : ByteArray) (hs : s.size ≤ 1000) : ev E0 65 [.agg [.lst 1 (ms.map st)], st s] [] = some (.tup [st (if okTM ms s = true then bareM ms s else ⟨#[]⟩), bl (okTM ms s)], []) := by
  have h1 := table_s ms (by omega) (fun m hm => by have := hz m hm; omega)
  have h2 := msg_s ms (by omega) s (by omega)
  unfold okTM
  rw [e65]
  unfold runF
  cases ho : okTable ms with
  | false => rw [ho] at h1; simp -implicitDefEqProofs [L65, h1]
  | true =>
    rw [ho] at h1
    cases hm : okMsg ms.length s with
    | false => rw [hm] at h2; simp -implicitDefEqProofs [L65, h1, h2]
    | true =>
      rw [hm] at h2
      have h3 := bareS ms hn hz s hm
      generalize bareM ms s = b at *
      simp -implicitDefEqProofs [L65, h1, h2, h3]
end Go.Proofs.YtckfbfgfjlgmeaaGreatDoor.Ev

namespace Go.Proofs.YtckfbfgfjlgmeaaGreatDoor.Ev
theorem cnt_filter (x : UInt8) (hx : gone x.toNat = false) (l : List UInt8) : (l.filter fun b => !gone b.toNat).count x = l.count x := by
  rw [List.count_filter]
  rw [hx]
  rfl
theorem cnt_enc {ms : List ByteArray} (ho : okTable ms = true) (s : ByteArray) (hs : okMsg ms.length s = true) (x : UInt8) (hx : gone x.toNat = false) : Lib.countByte (B (enc ms s)) x = Lib.countByte (B (bareM ms s)) x := by
  have h := bare_enc ho s hs
  have h2 : B (bareM ms s) = (B (enc ms s)).filter fun b => !gone b.toNat := by
    rw [← h, ← kept_B]
    exact B_mk _
  unfold Lib.countByte
  rw [h2, cnt_filter x hx]
theorem bare_marks {ms : List ByteArray} (ho : okTable ms = true) (s : ByteArray) (hs : okMsg ms.length s = true) : ∀ b ∈ B (bareM ms s), b = 46 ∨ b = 45 := by
  obtain ⟨h1, h2⟩ := okMsg_msgL hs
  have hv : ∀ c ∈ B s, c = 32 ∨ okB ms.length c := by
    by_cases he : B s = []
    · intro c hc; rw [he] at hc; cases hc
    · exact vM_mem ms.length (B s) _ (msg_vM ms.length s (B s) 0 rfl h1 (fun e => absurd e he))
  have key : ∀ t : List UInt8, (∀ c ∈ t, c = 32 ∨ okB ms.length c) → ∀ b ∈ mAll ms t, b = 46 ∨ b = 45 := by
    intro t
    induction t with
    | nil => intro _ b hb; cases hb
    | cons c t ih =>
      intro h b hb
      have ih := ih (fun d hd => h d (List.mem_cons_of_mem _ hd)) b
      rw [mAll] at hb
      split at hb
      · exact ih hb
      · rename_i hc
        rcases List.mem_append.1 hb with hb | hb
        · rcases h c (List.mem_cons_self ..) with rfl | ⟨q1, q2⟩
          · exact absurd rfl hc
          · have hn : c.toNat - 97 < ms.length := by omega
            have hk := tab_marks ho _ (by rw [← mk_at hn]; exact List.getElem_mem _ : mk_ ms (c.toNat - 97) ∈ ms)
            exact (marks_def.1 hk).1 b hb
        · exact ih hb
  have e : B (bareM ms s) = mAll ms (B s) := B_mk _
  rw [e]
  exact key (B s) hv
theorem cnt_sum : ∀ l : List UInt8, (∀ b ∈ l, b = 46 ∨ b = 45) → l.length = l.count 46 + l.count 45
  | [], _ => rfl
  | b :: l, h => by
    have ih := cnt_sum l (fun c hc => h c (List.mem_cons_of_mem _ hc))
    rcases h b (List.mem_cons_self ..) with rfl | rfl
    · rw [List.count_cons, List.count_cons, List.length_cons, ih]; simp; omega
    · rw [List.count_cons, List.count_cons, List.length_cons, ih]; simp; omega
end Go.Proofs.YtckfbfgfjlgmeaaGreatDoor.Ev

namespace Go.Proofs.YtckfbfgfjlgmeaaGreatDoor.Ev
def pB (a b : Int) : Blk := ⟨45, 2, 0, false, [.agg [i64 a, i64 b]]⟩
theorem cm_loop (s : ByteArray) (hs : s.size ≤ 100000) : ∀ (t : List UInt8) (i : Nat) (a b : Int), (B s).drop i = t → (∀ x ∈ t, x = 46 ∨ x = 45) → 0 ≤ a → 0 ≤ b → a + b + t.length ≤ 1000000 →
    packX 0 [4, 6] (loopW (bd E0 (ev E0) loopW 0 [4, 6, 7, 8] L63b0) ⟨[(4, .ptr 0 0 0), (6, .ptr 1 0 0), (7, st s), (8, i64 i)], [some (pB 0 0), some (pB a b)]⟩) = some (.ext 0, ⟨[(4, .ptr 0 0 0), (6, .ptr 1 0 0)], [some (pB 0 0), some (pB (a + (t.count 46 : Nat)) (b + (t.count 45 : Nat)))]⟩) := by
  unfold pB
  intro t
  induction t with
  | nil =>
    intro i a b h _ _ _ _
    have hi := byte_end h
    rw [show a + ((([] : List UInt8).count 46 : Nat) : Int) = a by simp, show b + ((([] : List UInt8).count 45 : Nat) : Int) = b by simp, loopW_eq]
    generalize loopW (bd E0 (ev E0) loopW 0 [4, 6, 7, 8] L63b0) = K
    simp -implicitDefEqProofs [bd, L63b0, hi]
  | cons c t ih =>
    intro i a b h hm h0 h1 h2
    obtain ⟨hi, hx, hd⟩ := byte_at h
    rw [List.length_cons] at h2
    have hg0 : ∀ h, s.data[i]'h = c := by
      intro _
      have hi2 : i < s.data.toList.length := by simpa using hi
      rw [List.getD_eq_getElem?_getD, List.getElem?_eq_getElem hi2, Option.getD_some] at hx
      exact hx
    have hw : IntKind.i64.wrap ((i : Int) + 1) = (i : Int) + 1 := wr64 (by omega) (by omega)
    have wa : IntKind.i64.wrap (a + 1) = a + 1 := wr64 (by omega) (by omega)
    have wb : IntKind.i64.wrap (b + 1) = b + 1 := wr64 (by omega) (by omega)
    rcases hm c (List.mem_cons_self ..) with rfl | rfl
    · have hih := ih (i + 1) (a + 1) b hd (fun x hx => hm x (List.mem_cons_of_mem _ hx)) (by omega) h1 (by omega)
      rw [cs1, show a + 1 + ((t.count 46 : Nat) : Int) = a + (((46 : UInt8) :: t).count 46 : Nat) by simp; omega, show ((t.count 45 : Nat) : Int) = ((((46 : UInt8) :: t).count 45 : Nat) : Int) by simp] at hih
      rw [loopW_eq]
      clear ih
      generalize a + (((46 : UInt8) :: t).count 46 : Nat) = A at hih ⊢
      generalize b + (((46 : UInt8) :: t).count 45 : Nat) = D at hih ⊢
      generalize loopW (bd E0 (ev E0) loopW 0 [4, 6, 7, 8] L63b0) = K at hih ⊢
      simpa -implicitDefEqProofs [bd, L63b0, hi, hx, hg0, hw, wa, wb] using hih
    · have hih := ih (i + 1) a (b + 1) hd (fun x hx => hm x (List.mem_cons_of_mem _ hx)) h0 (by omega) (by omega)
      rw [cs1, show b + 1 + ((t.count 45 : Nat) : Int) = b + (((45 : UInt8) :: t).count 45 : Nat) by simp; omega, show ((t.count 46 : Nat) : Int) = ((((45 : UInt8) :: t).count 46 : Nat) : Int) by simp] at hih
      rw [loopW_eq]
      clear ih
      generalize a + (((45 : UInt8) :: t).count 46 : Nat) = A at hih ⊢
      generalize b + (((45 : UInt8) :: t).count 45 : Nat) = D at hih ⊢
      generalize loopW (bd E0 (ev E0) loopW 0 [4, 6, 7, 8] L63b0) = K at hih ⊢
      simpa -implicitDefEqProofs [bd, L63b0, hi, hx, hg0, hw, wa, wb] using hih
def dots (ms : List ByteArray) (s : ByteArray) : Nat := (B (bareM ms s)).count 46
def dashs (ms : List ByteArray) (s : ByteArray) : Nat := (B (bareM ms s)).count 45
def cmV (ms : List ByteArray) (s : ByteArray) : AV := if okTM ms s = true then .tup [.agg [i64 (dots ms s : Int), i64 (dashs ms s : Int)], bl true] else .tup [.agg [i64 0, i64 0], bl false]
theorem bare_small {ms : List ByteArray} (ho : okTable ms = true) {s : ByteArray} (hs : okMsg ms.length s = true) : (bareM ms s).size ≤ 300 := by
  have h := bare_enc ho s hs
  have h2 := enc_small ho hs
  have h3 : (B (bareM ms s)).length ≤ (B (enc ms s)).length := by
    rw [← h, show B (⟨(kept (enc ms s) (enc ms s).size).toArray⟩ : ByteArray) = kept (enc ms s) (enc ms s).size from B_mk _, kept_B]
    exact List.length_filter_le _ _
  rw [B_len, B_len] at h3
  omega
theorem cm_s (ms : List ByteArray) (hn : ms.length ≤ 1000) (hz : ∀ m ∈ ms, m.size ≤ 1000) (s : ByteArray) (hs : s.size ≤ 1000) : ev E0 63 [.agg [.lst 1 (ms.map st)], st s] [] = some (cmV ms s, []) := by
  have h1 := table_s ms (by omega) (fun m hm => by have := hz m hm; omega)
  have h2 := msg_s ms (by omega) s (by omega)
  unfold cmV okTM
  rw [e63]
  unfold runF
  cases ho : okTable ms with
  | false => rw [ho] at h1; simp -implicitDefEqProofs [L63, h1]
  | true =>
    rw [ho] at h1
    cases hm : okMsg ms.length s with
    | false => rw [hm] at h2; simp -implicitDefEqProofs [L63, h1, h2]
    | true =>
      rw [hm] at h2
      have h3 := bareS ms hn hz s hm
      have hb := bare_small ho hm
      have h4 := cm_loop (bareM ms s) (by omega) (B (bareM ms s)) 0 0 0 rfl (bare_marks ho s hm) (Int.le_refl _) (Int.le_refl _) (by rw [B_len]; omega)
      rw [c0, Int.zero_add, Int.zero_add] at h4
      unfold pB at h4
      unfold dots dashs
      generalize (B (bareM ms s)).count 46 = A at *
      generalize (B (bareM ms s)).count 45 = D at *
      generalize bareM ms s = b at *
      simp -implicitDefEqProofs [L63, h1, h2, h3, h4]
theorem cm_i (ms : List ByteArray) (hn : ms.length ≤ 1000) (hz : ∀ m ∈ ms, m.size ≤ 1000) (s : ByteArray) (hs : s.size ≤ 1000) : ev E0 62 [.agg [.lst 1 (ms.map st)], st s] [] = some (cmV ms s, []) := by
  have h1 := areValid_i ms hn hz s hs
  unfold cmV
  rw [e62]
  unfold runF
  cases ho : okTM ms s with
  | false => rw [ho] at h1; simp -implicitDefEqProofs [L62, h1]
  | true =>
    rw [ho] at h1
    unfold okTM at ho
    rw [Bool.and_eq_true] at ho
    have h3 := tab_sizes ho.1
    have h2 := encodeI ms h3.1 h3.2 s ho.2
    have k1 := cnt_enc ho.1 s ho.2 46 rfl
    have k2 := cnt_enc ho.1 s ho.2 45 rfl
    have h4 : ev E0 86 [st (enc ms s), st ⟨#[46]⟩] [] = some (i64 (dots ms s : Int), []) := by
      rw [e86, countP, if_pos (by rfl)]
      show some (i64 ((Lib.countByte (B (enc ms s)) 46 : Nat) : Int), []) = _
      rw [k1]
      rfl
    have h5 : ev E0 86 [st (enc ms s), st ⟨#[45]⟩] [] = some (i64 (dashs ms s : Int), []) := by
      rw [e86, countP, if_pos (by rfl)]
      show some (i64 ((Lib.countByte (B (enc ms s)) 45 : Nat) : Int), []) = _
      rw [k2]
      rfl
    generalize dots ms s = A at *
    generalize dashs ms s = D at *
    generalize enc ms s = e at *
    simp -implicitDefEqProofs [L62, h1, h2, h4, h5]
end Go.Proofs.YtckfbfgfjlgmeaaGreatDoor.Ev

