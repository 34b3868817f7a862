/- The program's encode: a word at a time. -/
import Derived.Test.YtgecnbafmlecjaaGreatDoorEvTm
import Derived.Test.YtgecnbafmlecjaaGreatDoorEvTextOf
set_option linter.unusedVariables false
set_option linter.unusedSimpArgs false
namespace Go.Proofs.YtgecnbafmlecjaaGreatDoor.Ev
def sB1 (l : List ByteArray) : Blk := ⟨9, 1, 1, false, l.map st⟩
def tL1 (ms : List ByteArray) : Blk := ⟨26, 1, 0, false, [.agg [.lst 1 (ms.map st)]]⟩
/-- A letter's marks. -/
def mB (ms : List ByteArray) (b : UInt8) : ByteArray := mk_ ms (b.toNat - 97)
def okB (n : Nat) (b : UInt8) : Prop := 97 ≤ b.toNat ∧ b.toNat < 97 + n
theorem encI0 (ms ws fs : List ByteArray) (hm : ms.length ≤ 100) (word : ByteArray) (hs : word.size ≤ 1000) (wn fn i : Nat) : ∀ (t : List UInt8) (k : Nat) (acc : List ByteArray), (B word).drop k = t → acc.length = k → k + t.length = word.size → (∀ b ∈ t, okB ms.length b) →
    packX 0 [2, 5, 8, 12, 13, 14] (loopW (bd E0 (ev E0) loopW 0 [2, 5, 7, 8, 12, 13, 14, 20, 21] L37b0) ⟨[(2, .ptr 0 0 0), (5, .sl 1 0 wn), (7, st word), (8, .sl 2 0 k), (12, .sl 3 0 fn), (13, i64 fn), (14, i64 i), (20, i64 word.size), (21, i64 k)], [some (tL1 ms), some (sB1 ws), some (sB1 acc), some (sB1 fs)]⟩) =
      some (.ext 2, ⟨[(2, .ptr 0 0 0), (5, .sl 1 0 wn), (8, .sl 2 0 word.size), (12, .sl 3 0 fn), (13, i64 fn), (14, i64 i)], [some (tL1 ms), some (sB1 ws), some (sB1 (acc ++ t.map (mB ms))), some (sB1 fs)]⟩) := by
  unfold sB1 tL1
  intro t
  induction t with
  | nil =>
    intro k acc h ha hl _
    rw [List.length_nil] at hl
    obtain rfl : k = word.size := by omega
    rw [List.map_nil, List.append_nil, loopW_eq]
    generalize ws.map st = W
    generalize fs.map st = F
    generalize acc.map st = A
    generalize loopW (bd E0 (ev E0) loopW 0 [2, 5, 7, 8, 12, 13, 14, 20, 21] L37b0) = K
    simp -implicitDefEqProofs [bd, L37b0]
  | cons b t ih =>
    intro k acc h ha hl hok
    rw [List.length_cons] at hl
    obtain ⟨hi, hx, hd⟩ := byte_at h
    obtain ⟨o1, o2⟩ := hok b (List.mem_cons_self ..)
    have hih := ih (k + 1) (acc ++ [mB ms b]) hd (by simp; omega) (by omega) (fun c hc => hok c (List.mem_cons_of_mem _ hc))
    rw [cs1, List.append_assoc, List.singleton_append, ← List.map_cons, List.map_append, List.map_singleton] at hih
    have hg0 : ∀ h, word.data[k]'h = b := by
      intro _
      have hi2 : k < word.data.toList.length := by simpa using hi
      rw [List.getD_eq_getElem?_getD, List.getElem?_eq_getElem hi2, Option.getD_some] at hx
      exact hx
    have hn : b.toNat - 97 < ms.length := by omega
    have hw8 : IntKind.u8.wrap ((b.toNat : Int) - 97) = ((b.toNat - 97 : Nat) : Int) := by
      have := UInt8.toNat_lt b
      rw [IntKind.wrap_u8]
      omega
    have hn2 : ((b.toNat - 97 : Nat) : Int) < (ms.length : Int) := by omega
    have hk2 : (k : Int) < (word.size : Int) := by omega
    have hg : (ms.map st)[b.toNat - 97]? = some (st (mB ms b)) := by rw [List.getElem?_map, List.getElem?_eq_getElem hn, mk_at hn]; rfl
    have hg2 : ∀ h, (ms.map st)[b.toNat - 97]'h = st (mB ms b) := fun h => (List.getElem?_eq_some_iff.1 hg).2
    have hw : IntKind.i64.wrap ((k : Int) + 1) = (k : Int) + 1 := wr64 (by omega) (by omega)
    have l1 : k + 1 ≤ 140737488355328 := by omega
    have l2 : (k + 1) * 16 ≤ 140737488355328 := by omega
    have hal : (acc.map st).length = k := by rw [List.length_map, ha]
    have ht : List.take k (acc.map st) = acc.map st := List.take_of_length_le (by omega)
    rw [loopW_eq]
    clear ih h hd
    generalize (acc ++ List.map (mB ms) (b :: t)).map st = R at hih ⊢
    generalize acc.map st = A at *
    generalize mB ms b = fm at *
    generalize ws.map st = W at *
    generalize fs.map st = F at *
    generalize hq : b.toNat - 97 = q at *
    generalize loopW (bd E0 (ev E0) loopW 0 [2, 5, 7, 8, 12, 13, 14, 20, 21] L37b0) = K at hih ⊢
    simpa -implicitDefEqProofs [bd, L37b0, hi, hk2, hx, hg0, hw8, hn, hn2, hg, hg2, hw, l1, l2, hal, ht, ha] using hih
/-- A word's letters, with gaps. -/
def wordB (ms : List ByteArray) (f : ByteArray) : ByteArray := ⟨(joinB ((B f).map (mB ms)) ⟨#[32]⟩).toArray⟩
theorem join_e (l : List ByteArray) (c : ByteArray) (h1 : l.length ≤ 140737488355328) (h2 : (joinB l c).length ≤ 140737488355328) : ev E0 63 [.lst 1 (l.map st), st c] [] = some (st ⟨(joinB l c).toArray⟩, []) := by
  rw [e63]
  show joinQ _ _ (strsOf _) = _
  rw [strsOf_map]
  show (if _ then _ else _) = _
  rw [if_pos ⟨h1, h2⟩]
theorem encI1 (ms fs : List ByteArray) (hm : ms.length ≤ 100) (hf : fs.length ≤ 1000) (hz : ∀ f ∈ fs, f.size ≤ 1000 ∧ (∀ b ∈ B f, okB ms.length b) ∧ (joinB ((B f).map (mB ms)) ⟨#[32]⟩).length ≤ 1000000) : ∀ (t : List ByteArray) (i : Nat) (acc : List ByteArray), fs.drop i = t → acc.length = i → i + t.length = fs.length →
    packX 0 [5] (loopW (bd E0 (ev E0) loopW 0 [2, 5, 12, 13, 14] L37b1) ⟨[(2, .ptr 0 0 0), (5, .sl 1 0 i), (12, .sl 2 0 fs.length), (13, i64 fs.length), (14, i64 i)], [some (tL1 ms), some (sB1 acc), some (sB1 fs)]⟩) =
      some (.ext 0, ⟨[(5, .sl 0 0 fs.length)], [some (sB1 (acc ++ t.map (wordB ms)))]⟩) := by
  intro t
  induction t with
  | nil =>
    intro i acc h ha hl
    have hi := not_drop h
    rw [List.length_nil] at hl
    obtain rfl : i = fs.length := by omega
    have hi2 : ¬ (fs.length : Int) < (fs.length : Int) := by omega
    rw [List.map_nil, List.append_nil, loopW_eq]
    unfold sB1 tL1
    generalize fs.map st = F
    generalize acc.map st = A
    generalize loopW (bd E0 (ev E0) loopW 0 [2, 5, 12, 13, 14] L37b1) = K
    unfold bd
    simp -implicitDefEqProofs [L37b1]
  | cons f t ih =>
    intro i acc h ha hl
    rw [List.length_cons] at hl
    obtain ⟨hi, hx, hd, hmem⟩ := at_drop h
    obtain ⟨z1, z2, z3⟩ := hz f hmem
    have hih := ih (i + 1) (acc ++ [wordB ms f]) hd (by simp; omega) (by omega)
    have hin := encI0 ms acc fs hm f z1 i fs.length i (B f) 0 [] rfl rfl (by rw [B_len]; omega) z2
    have hj := join_e ((B f).map (mB ms)) ⟨#[32]⟩ (by rw [List.length_map, B_len]; omega) (by omega)
    rw [show (⟨(joinB ((B f).map (mB ms)) ⟨#[32]⟩).toArray⟩ : ByteArray) = wordB ms f from rfl] at hj
    have hjl : (((B f).map (mB ms)).map st).length = f.size := by rw [List.length_map, List.length_map, B_len]
    rw [c0, List.nil_append] at hin
    rw [cs1, List.append_assoc, List.singleton_append, ← List.map_cons] at hih
    have hi2 : (i : Int) < (fs.length : Int) := by omega
    have hg : (fs.map st)[i]? = some (st f) := by rw [List.getElem?_map, List.getElem?_eq_getElem hi, hx]; rfl
    have hg2 : ∀ h, (fs.map st)[i]'h = st f := fun h => (List.getElem?_eq_some_iff.1 hg).2
    have hfl : (fs.map st).length = fs.length := List.length_map _
    have hft : List.take fs.length (fs.map st) = fs.map st := List.take_of_length_le (by omega)
    have hw : IntKind.i64.wrap ((i : Int) + 1) = (i : Int) + 1 := wr64 (by omega) (by omega)
    have l1 : i + 1 ≤ 140737488355328 := by omega
    have l2 : (i + 1) * 16 ≤ 140737488355328 := by omega
    have hal : (acc.map st).length = i := by rw [List.length_map, ha]
    have ht : List.take i (acc.map st) = acc.map st := List.take_of_length_le (by omega)
    have hjt : List.take f.size (((B f).map (mB ms)).map st) = ((B f).map (mB ms)).map st := List.take_of_length_le (by omega)
    unfold sB1 tL1 at *
    rw [List.map_append, List.map_singleton] at hih
    rw [List.map_nil] at hin
    rw [loopW_eq]
    clear ih h hd
    generalize (acc ++ List.map (wordB ms) (f :: t)).map st = R at hih ⊢
    generalize acc.map st = A at *
    generalize wordB ms f = wf at *
    generalize ((B f).map (mB ms)).map st = J at *
    generalize fs.map st = F at *
    generalize loopW (bd E0 (ev E0) loopW 0 [2, 5, 12, 13, 14] L37b1) = K at hih ⊢
    unfold bd
    simpa -implicitDefEqProofs [L37b1, hi, hi2, hg, hg2, hin, hj, hjl, hjt, hfl, hft, hw, l1, l2, hal, ht, ha] using hih
end Go.Proofs.YtgecnbafmlecjaaGreatDoor.Ev

namespace Go.Proofs.YtgecnbafmlecjaaGreatDoor.Ev
def encI (ms : List ByteArray) (s : ByteArray) : ByteArray := ⟨(joinB ((fieldsL s).map (wordB ms)) ⟨#[47]⟩).toArray⟩
theorem encode_i (ms : List ByteArray) (hm : ms.length ≤ 100) (s : ByteArray) (hs : s.size ≤ 900) (ha : s.data.toList.all (fun b => decide (b.toNat < 128)) = true)
    (hz : ∀ f ∈ fieldsL s, f.size ≤ 1000 ∧ (∀ b ∈ B f, okB ms.length b) ∧ (joinB ((B f).map (mB ms)) ⟨#[32]⟩).length ≤ 1000000) (hj : (joinB ((fieldsL s).map (wordB ms)) ⟨#[47]⟩).length ≤ 140737488355328) :
    ev E0 37 [.agg [.lst 1 (ms.map st)], st s] [] = some (st (encI ms s), []) := by
  have hl := fieldsL_len s
  have hf : ev E0 62 [st s] [] = some (.sl 0 0 (fieldsL s).length, [some (sB1 (fieldsL s))]) := by
    rw [e62, fieldsP, if_pos ⟨by omega, ha⟩]
    rfl
  have hlp := encI1 ms (fieldsL s) hm (by omega) hz (fieldsL s) 0 [] rfl rfl (by simp)
  have hjj := join_e ((fieldsL s).map (wordB ms)) ⟨#[47]⟩ (by rw [List.length_map]; omega) hj
  rw [show (⟨(joinB ((fieldsL s).map (wordB ms)) ⟨#[47]⟩).toArray⟩ : ByteArray) = encI ms s from rfl] at hjj
  have ht : List.take (fieldsL s).length (((fieldsL s).map (wordB ms)).map st) = ((fieldsL s).map (wordB ms)).map st := List.take_of_length_le (by simp)
  have htl : (((fieldsL s).map (wordB ms)).map st).length = (fieldsL s).length := by simp
  rw [c0, List.nil_append] at hlp
  unfold sB1 tL1 at *
  rw [List.map_nil] at hlp
  rw [e37]
  unfold runF
  generalize ((fieldsL s).map (wordB ms)).map st = J at *
  generalize (fieldsL s).map st = F at *
  generalize (fieldsL s).length = n at *
  simp -implicitDefEqProofs [L37, hf, hlp, hjj, ht, htl]
end Go.Proofs.YtgecnbafmlecjaaGreatDoor.Ev

