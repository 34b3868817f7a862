/- Both programs' encode are one. -/
import Derived.Test.YtgecnbafmlecjaaGreatDoorEvMSa
import Derived.Test.YtgecnbafmlecjaaGreatDoorEvExact
import Derived.Test.YtgecnbafmlecjaaGreatDoorEvStation
set_option linter.unusedVariables false
set_option linter.unusedSimpArgs false
namespace Go.Proofs.YtgecnbafmlecjaaGreatDoor.Ev
def mrk (ms : List ByteArray) (b : UInt8) : List UInt8 := B (mB ms b)
def wJ (ms : List ByteArray) (w : List UInt8) : List UInt8 := Lib.join (w.map (mrk ms)) [32]
def sJ (ms : List ByteArray) (ws : List (List UInt8)) : List UInt8 := Lib.join (ws.map (wJ ms)) [47]
def sE (ms : List ByteArray) : Bool → List UInt8 → List UInt8
  | _, [] => []
  | p, c :: t => if c = 32 then 47 :: sE ms false t else (if p then [32] else []) ++ mrk ms c ++ sE ms true t
/-- The rest of a message: p, whether a letter stands ahead. -/
def vM (n : Nat) : Bool → List UInt8 → Prop
  | p, [] => p = true
  | p, c :: t => (c = 32 ∧ p = true ∧ vM n false t) ∨ (c ≠ 32 ∧ okB n c ∧ vM n true t)
theorem wJ_snoc (ms : List ByteArray) (w : List UInt8) (c : UInt8) (h : w ≠ []) : wJ ms (w ++ [c]) = wJ ms w ++ 32 :: mrk ms c := by
  obtain ⟨x, r, rfl⟩ : ∃ x r, w = x :: r := by
    cases w with
    | nil => exact absurd rfl h
    | cons x r => exact ⟨x, r, rfl⟩
  unfold wJ
  rw [List.cons_append, List.map_cons, List.map_cons, Lib.join_cons, Lib.join_cons, List.map_append]
  simp [Lib.joinTail]
theorem sp_letter {n : Nat} (hn : n ≤ 20) {c : UInt8} (h : okB n c) : Lib.isSp c = false := by
  obtain ⟨h1, h2⟩ := h
  unfold Lib.isSp
  have hne : ∀ x : UInt8, x.toNat < 97 → (c == x) = false := fun x hx => by
    rw [beq_eq_false_iff_ne]
    intro e
    subst e
    omega
  simp [hne]
theorem fields_cur (l : List UInt8) : ∀ cur, cur ≠ [] → Lib.fieldsGo cur l ≠ [] := by
  induction l with
  | nil =>
    intro cur h
    rw [Lib.fieldsGo]
    cases cur with
    | nil => exact absurd rfl h
    | cons => simp
  | cons b l ih =>
    intro cur h
    rw [Lib.fieldsGo]
    have hc : cur.isEmpty = false := by cases cur <;> simp_all
    rw [hc]
    split
    · simp
    · exact ih _ (by simp)
theorem sJ_eq (ms : List ByteArray) (n : Nat) (hn : n ≤ 20) : ∀ (t : List UInt8), (∀ cur, cur ≠ [] → vM n true t → sJ ms (Lib.fieldsGo cur t) = wJ ms cur ++ sE ms true t) ∧ (vM n false t → sJ ms (Lib.fieldsGo [] t) = sE ms false t ∧ Lib.fieldsGo [] t ≠ [])
  | [] => by
    refine ⟨fun cur hc _ => ?_, fun h => by simp [vM] at h⟩
    have hce : cur.isEmpty = false := by cases cur <;> simp_all
    rw [Lib.fieldsGo, hce, sE, List.append_nil]
    simp [sJ, Lib.join_one]
  | c :: t => by
    obtain ⟨ihA, ihB⟩ := sJ_eq ms n hn t
    refine ⟨fun cur hc hv => ?_, fun hv => ?_⟩
    · have hce : cur.isEmpty = false := by cases cur <;> simp_all
      rw [vM] at hv
      rcases hv with ⟨rfl, -, hv⟩ | ⟨h32, hok, hv⟩
      · obtain ⟨e1, e2⟩ := ihB hv
        rw [Lib.fieldsGo, show Lib.isSp 32 = true from rfl, hce, sE, if_pos rfl]
        simp only [if_true, Bool.false_eq_true, if_false]
        rw [← e1]
        obtain ⟨x, r, hx⟩ : ∃ x r, Lib.fieldsGo [] t = x :: r := by
          cases hq : Lib.fieldsGo [] t with
          | nil => exact absurd hq e2
          | cons x r => exact ⟨x, r, rfl⟩
        rw [hx]
        unfold sJ
        rw [List.map_cons, Lib.join_cons, List.map_cons, Lib.join_cons]
        simp [Lib.joinTail]
      · have hs := sp_letter hn hok
        rw [Lib.fieldsGo, hs, sE, if_neg h32]
        simp only [Bool.false_eq_true, if_false]
        rw [ihA (cur ++ [c]) (by simp) hv, wJ_snoc ms cur c hc]
        simp
    · rw [vM] at hv
      rcases hv with ⟨_, h, _⟩ | ⟨h32, hok, hv⟩
      · cases h
      · have hs := sp_letter hn hok
        rw [Lib.fieldsGo, hs, sE, if_neg h32]
        simp only [Bool.false_eq_true, if_false, List.nil_append]
        refine ⟨?_, fields_cur t [c] (by simp)⟩
        rw [ihA [c] (by simp) hv]
        simp [wJ, Lib.join_one]
end Go.Proofs.YtgecnbafmlecjaaGreatDoor.Ev

namespace Go.Proofs.YtgecnbafmlecjaaGreatDoor.Ev
/-- Does a letter stand ahead of a place? -/
def pA (s : ByteArray) (i : Nat) : Bool := decide (0 < i ∧ prvC s i ≠ 32)
theorem pA_succ {s : ByteArray} {i : Nat} {c : UInt8} {t : List UInt8} (h : (B s).drop i = c :: t) : pA s (i + 1) = decide (c.toNat ≠ 32) := by
  obtain ⟨hi, hx, hd⟩ := byte_at h
  have : prvC s (i + 1) = c.toNat := by
    unfold prvC
    rw [Nat.add_sub_cancel, hx]
  unfold pA
  rw [this]
  exact decide_eq_decide.2 ⟨fun h => h.2, fun h => ⟨Nat.succ_pos _, h⟩⟩
theorem b32 (c : UInt8) : c = 32 ↔ c.toNat = 32 := ⟨fun h => by rw [h]; rfl, fun h => UInt8.toNat_inj.1 h⟩
theorem enc_sE (ms : List ByteArray) (s : ByteArray) : ∀ (t : List UInt8) (i : Nat) (a : ByteArray), (B s).drop i = t → B (encL ms s t i a) = B a ++ sE ms (pA s i) t
  | [], i, a, _ => by rw [encL, sE, List.append_nil]
  | c :: t, i, a, h => by
    obtain ⟨hi, hx, hd⟩ := byte_at h
    have ih := enc_sE ms s t (i + 1) (encStep ms s c i a) hd
    rw [encL, ih, pA_succ h, sE]
    unfold encStep
    by_cases hc : c.toNat = 32
    · rw [if_pos hc, if_pos ((b32 c).2 hc), decide_eq_false (by simpa using hc), B_append, List.append_assoc]
      rfl
    · rw [if_neg hc, if_neg (fun e => hc ((b32 c).1 e)), decide_eq_true hc]
      unfold pA
      by_cases hp : 0 < i ∧ prvC s i ≠ 32
      · rw [if_pos hp, decide_eq_true hp, if_pos rfl, B_append, B_append]
        simp only [List.append_assoc]
        rfl
      · rw [if_neg hp, decide_eq_false hp, B_append, List.append_assoc]
        rfl
theorem msg_vM (n : Nat) (s : ByteArray) : ∀ (t : List UInt8) (i : Nat), (B s).drop i = t → msgL n s t i = true → (t = [] → pA s i = true) → vM n (pA s i) t
  | [], i, _, _, h => h rfl
  | c :: t, i, h, hm, _ => by
    obtain ⟨hi, hx, hd⟩ := byte_at h
    rw [msgL, Bool.and_eq_true] at hm
    obtain ⟨h1, h2⟩ := hm
    have hp := pA_succ h
    rw [vM]
    unfold chOk at h1
    by_cases hc : c.toNat = 32
    · rw [if_pos hc] at h1
      unfold spOk at h1
      simp only [Bool.not_eq_true', Bool.or_eq_false_iff, decide_eq_false_iff_not] at h1
      obtain ⟨q1, q2, q3⟩ := h1
      refine .inl ⟨(b32 c).2 hc, decide_eq_true ⟨by omega, q3⟩, ?_⟩
      have ht : t ≠ [] := fun e => by
        subst e
        have := byte_end hd
        omega
      have ih := msg_vM n s t (i + 1) hd h2 (fun e => absurd e ht)
      rw [hp, decide_eq_false (by simpa using hc)] at ih
      exact ih
    · rw [if_neg hc] at h1
      simp only [Bool.and_eq_true, decide_eq_true_eq] at h1
      have ih := msg_vM n s t (i + 1) hd h2 (fun _ => by rw [hp]; exact decide_eq_true hc)
      rw [hp, decide_eq_true hc] at ih
      exact .inr ⟨fun e => hc ((b32 c).1 e), ⟨by omega, by omega⟩, ih⟩
theorem B_fields (s : ByteArray) : (fieldsL s).map B = Lib.fields (B s) := by
  unfold fieldsL
  rw [List.map_map]
  conv => rhs; rw [← List.map_id (Lib.fields (B s))]
  exact List.map_congr_left fun l _ => B_mk l
theorem B_word (ms : List ByteArray) (f : ByteArray) : B (wordB ms f) = wJ ms (B f) := by
  unfold wordB wJ
  rw [B_mk]
  unfold joinB
  rw [List.map_map]
  rfl
theorem B_encI (ms : List ByteArray) (s : ByteArray) : B (encI ms s) = sJ ms (Lib.fields (B s)) := by
  unfold encI sJ
  rw [B_mk, ← B_fields]
  unfold joinB
  rw [List.map_map, List.map_map]
  congr 1
  exact List.map_congr_left fun f _ => B_word ms f
theorem encI_enc (ms : List ByteArray) (hn : ms.length ≤ 20) (s : ByteArray) (h : okMsg ms.length s = true) : encI ms s = enc ms s := by
  obtain ⟨h1, h2⟩ := okMsg_msgL h
  apply B_inj
  rw [B_encI]
  unfold enc
  rw [enc_sE ms s (B s) 0 ⟨#[]⟩ rfl]
  have hp : pA s 0 = false := rfl
  rw [hp]
  by_cases he : B s = []
  · rw [he]; rfl
  · have hv := msg_vM ms.length s (B s) 0 rfl h1 (fun e => absurd e he)
    rw [hp] at hv
    exact ((sJ_eq ms ms.length hn (B s)).2 hv).1
end Go.Proofs.YtgecnbafmlecjaaGreatDoor.Ev

namespace Go.Proofs.YtgecnbafmlecjaaGreatDoor.Ev
theorem go_mem : ∀ (t cur w : List UInt8), w ∈ Lib.fieldsGo cur t → w.length ≤ cur.length + t.length ∧ ∀ b ∈ w, b ∈ cur ∨ (b ∈ t ∧ Lib.isSp b = false)
  | [], cur, w, h => by
    rw [Lib.fieldsGo] at h
    split at h
    · cases h
    · rw [List.mem_singleton.1 h]
      exact ⟨by simp, fun b hb => .inl hb⟩
  | c :: t, cur, w, h => by
    rw [Lib.fieldsGo] at h
    have up : ∀ cur', w ∈ Lib.fieldsGo cur' t → w.length ≤ cur'.length + t.length ∧ ∀ b ∈ w, b ∈ cur' ∨ (b ∈ t ∧ Lib.isSp b = false) := fun cur' hw => go_mem t cur' w hw
    have nil : w ∈ Lib.fieldsGo [] t → w.length ≤ cur.length + (c :: t).length ∧ ∀ b ∈ w, b ∈ cur ∨ (b ∈ c :: t ∧ Lib.isSp b = false) := fun hw => by
      obtain ⟨h1, h2⟩ := up [] hw
      refine ⟨by simp at h1 ⊢; omega, fun b hb => ?_⟩
      rcases h2 b hb with h | ⟨h, h'⟩
      · cases h
      · exact .inr ⟨List.mem_cons_of_mem _ h, h'⟩
    cases hs : Lib.isSp c with
    | true =>
      rw [hs, if_pos rfl] at h
      split at h
      · exact nil h
      · rcases List.mem_cons.1 h with rfl | h
        · exact ⟨by omega, fun b hb => .inl hb⟩
        · exact nil h
    | false =>
      rw [hs, if_neg (by decide)] at h
      obtain ⟨h1, h2⟩ := up (cur ++ [c]) h
      refine ⟨by simp at h1 ⊢; omega, fun b hb => ?_⟩
      rcases h2 b hb with h | ⟨h, h'⟩
      · rcases List.mem_append.1 h with h | h
        · exact .inl h
        · rw [List.mem_singleton.1 h]
          exact .inr ⟨List.mem_cons_self .., hs⟩
      · exact .inr ⟨List.mem_cons_of_mem _ h, h'⟩
theorem vM_mem (n : Nat) : ∀ (t : List UInt8) (p : Bool), vM n p t → ∀ b ∈ t, b = 32 ∨ okB n b
  | c :: t, p, h, b, hb => by
    rw [vM] at h
    rcases h with ⟨h1, _, h3⟩ | ⟨_, h2, h3⟩
    · rcases List.mem_cons.1 hb with rfl | hb
      · exact .inl h1
      · exact vM_mem n t _ h3 b hb
    · rcases List.mem_cons.1 hb with rfl | hb
      · exact .inr h2
      · exact vM_mem n t _ h3 b hb
theorem tail_len (c : UInt8) (z : Nat) : ∀ r : List (List UInt8), (∀ x ∈ r, x.length ≤ z) → (Lib.joinTail [c] r).length ≤ r.length * (z + 1)
  | [], _ => by simp [Lib.joinTail]
  | x :: r, h => by
    have ih := tail_len c z r (fun y hy => h y (List.mem_cons_of_mem _ hy))
    have hx := h x (List.mem_cons_self ..)
    have e : Lib.joinTail [c] (x :: r) = c :: (x ++ Lib.joinTail [c] r) := by simp [Lib.joinTail]
    rw [e, List.length_cons, List.length_append, List.length_cons, Nat.succ_mul]
    omega
theorem join_len (c : UInt8) (z : Nat) (r : List (List UInt8)) (h : ∀ x ∈ r, x.length ≤ z) : (Lib.join r [c]).length ≤ r.length * (z + 1) := by
  cases r with
  | nil => simp [Lib.join_nil]
  | cons x r =>
    have ih := tail_len c z r (fun y hy => h y (List.mem_cons_of_mem _ hy))
    have hx := h x (List.mem_cons_self ..)
    rw [Lib.join_cons, List.length_append, List.length_cons, Nat.succ_mul]
    omega
theorem encodeI (ms : List ByteArray) (hn : ms.length ≤ 20) (hz : ∀ m ∈ ms, m.size ≤ 20) (s : ByteArray) (h : okMsg ms.length s = true) : ev E0 37 [.agg [.lst 1 (ms.map st)], st s] [] = some (st (enc ms s), []) := by
  obtain ⟨h1, h2⟩ := okMsg_msgL h
  have hb : ∀ b ∈ B s, b = 32 ∨ okB ms.length b := by
    by_cases he : B s = []
    · intro b hb; rw [he] at hb; cases hb
    · exact vM_mem ms.length (B s) _ (msg_vM ms.length s (B s) 0 rfl h1 (fun e => absurd e he))
  have hf : ∀ f ∈ fieldsL s, f.size ≤ 12 ∧ (∀ b ∈ B f, okB ms.length b) := by
    intro f hf
    have hm : B f ∈ Lib.fields (B s) := by rw [← B_fields]; exact List.mem_map.2 ⟨f, hf, rfl⟩
    obtain ⟨q1, q2⟩ := go_mem (B s) [] (B f) hm
    rw [B_len, B_len] at q1
    refine ⟨by simp at q1; omega, fun b hb' => ?_⟩
    rcases q2 b hb' with h | ⟨h, hs⟩
    · cases h
    · rcases hb b h with rfl | h
      · exact absurd hs (by decide)
      · exact h
  have hmk : ∀ b, (mrk ms b).length ≤ 20 := fun b => by
    unfold mrk mB mk_
    rw [B_len]
    exact getD_sz hz _
  have hw : ∀ f ∈ fieldsL s, (wJ ms (B f)).length ≤ 252 := fun f hf' => by
    have q1 := (hf f hf').1
    have := join_len 32 20 ((B f).map (mrk ms)) (fun x hx => by
      obtain ⟨b, _, rfl⟩ := List.mem_map.1 hx
      exact hmk b)
    rw [List.length_map, B_len] at this
    have h3 : f.size * (20 + 1) ≤ 12 * 21 := Nat.mul_le_mul_right 21 q1
    unfold wJ
    omega
  have hl := fieldsL_len s
  have e1 : ∀ f, joinB ((B f).map (mB ms)) ⟨#[32]⟩ = wJ ms (B f) := fun f => by
    unfold joinB wJ
    rw [List.map_map]
    rfl
  have e2 : joinB ((fieldsL s).map (wordB ms)) ⟨#[47]⟩ = Lib.join ((fieldsL s).map fun f => wJ ms (B f)) [47] := by
    unfold joinB
    rw [List.map_map]
    congr 1
    exact List.map_congr_left fun f _ => B_word ms f
  have hj := join_len 47 252 ((fieldsL s).map fun f => wJ ms (B f)) (fun x hx => by
    obtain ⟨f, hf', rfl⟩ := List.mem_map.1 hx
    exact hw f hf')
  rw [List.length_map] at hj
  have h4 : (fieldsL s).length * (252 + 1) ≤ 13 * 253 := Nat.mul_le_mul_right 253 (by omega)
  rw [encode_i ms (by omega) s (by omega) (List.all_eq_true.2 fun b hb' => by
    rcases hb b hb' with rfl | h
    · decide
    · exact decide_eq_true (by have := h.2; omega)) (fun f hf' => ⟨by have := (hf f hf').1; omega, (hf f hf').2, by rw [e1]; have := hw f hf'; omega⟩) (by rw [e2]; omega), encI_enc ms hn s h]
end Go.Proofs.YtgecnbafmlecjaaGreatDoor.Ev

namespace Go.Proofs.YtgecnbafmlecjaaGreatDoor.Ev
def okTM (ms : List ByteArray) (s : ByteArray) : Bool := okTable ms && okMsg ms.length s
theorem tab_sizes {ms : List ByteArray} (h : okTable ms = true) : ms.length ≤ 20 ∧ ∀ m ∈ ms, m.size ≤ 20 := by
  have h1 := vt_of h
  exact ⟨by have := h1.len; omega, fun m hm => by have := (h1.sz m hm).2; omega⟩
end Go.Proofs.YtgecnbafmlecjaaGreatDoor.Ev

