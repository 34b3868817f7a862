/- The encoding of a record: the reference's line and the program's, one list of bytes. -/
import Derived.Test.YtpknehbhbiofaaaDoorPAg14
import Derived.Test.YtpknehbhbiofaaaDoorPAg16
import Derived.Test.YtpknehbhbiofaaaDoorNum
import Derived.Test.YtpknehbhbiofaaaDoorSplit
import Derived.Test.YtpknehbhbiofaaaDoorRec
set_option linter.unusedVariables false
set_option linter.unusedSimpArgs false
namespace Go.Proofs.YtpknehbhbiofaaaDoor.Line
open Go.RowKit Go.Proofs.YtpknehbhbiofaaaDoor.PA Go.Proofs.YtpknehbhbiofaaaDoorW.PrintWords Go.Proofs.YtpknehbhbiofaaaDoor.U Go.Proofs.YtpknehbhbiofaaaDoor.Num Go.Proofs.YtpknehbhbiofaaaDoor.Split Go.Proofs.YtpknehbhbiofaaaDoor.Rec
def seal_ (t : List UInt8) : List UInt8 := t ++ 35 :: Lib.itoa (sum t 7)
def body (n : Int) (c r : List UInt8) : List UInt8 := Lib.itoa n ++ 32 :: (c ++ 64 :: r)
def enc (n : Int) (c r : List UInt8) : List UInt8 := seal_ (body n c r) ++ [10]
theorem sum_int (t : List UInt8) : -9223372036854775808 ≤ ((sum t 7 : Nat) : Int) ∧ ((sum t 7 : Nat) : Int) ≤ 9223372036854775807 := by
  have := sum_lt t 7 (by decide)
  omega
theorem seal_len (t : List UInt8) : (seal_ t).length ≤ t.length + 21 := by
  have := itoa_len (sum_int t)
  unfold seal_
  simp only [List.length_append, List.length_cons]
  omega
theorem sealed (s N : ByteArray) (hN : B N = Lib.itoa ((sum (B s) 7 : Nat) : Int)) : (s ++ (⟨#[35]⟩ : ByteArray)) ++ N = mk (seal_ (B s)) := by
  apply B_inj
  rw [B_append, B_append, B_mk', hN, B_one]
  simp [seal_]
theorem l1Seal (s : ByteArray) (hs : s.size ≤ 1099511627776) (k : Nat) (hk : 2000000 + s.size < k) : spec_l1Seal.f k s = some (mk (seal_ (B s))) := by
  unfold spec_l1Seal.f
  have h1 := sum_lt (B s) 7 (by decide)
  have h2 := itoa_len (sum_int (B s))
  have hz : (⟨(Lib.itoa ((sum (B s) 7 : Nat) : Int)).toArray⟩ : ByteArray).size ≤ 20 := by rw [size_list]; exact h2
  have hB : B ⟨(Lib.itoa ((sum (B s) 7 : Nat) : Int)).toArray⟩ = Lib.itoa ((sum (B s) 7 : Nat) : Int) := B_mk _
  rw [if_pos (by omega), Option.bind_some, l1Sum s (by omega) k (by omega), Option.bind_some, num _ (sum_int _) k (by omega), Option.bind_some]
  generalize (⟨(Lib.itoa ((sum (B s) 7 : Nat) : Int)).toArray⟩ : ByteArray) = N at hz hB ⊢
  rw [if_pos (by rw [ByteArray.size_append, size_one]; omega), sealed s N hB]
theorem contains_one (s : ByteArray) (c : UInt8) : strings_Contains.f s ⟨#[c]⟩ = some (decide (c ∈ B s)) := by
  unfold strings_Contains.f
  rw [if_pos (size_one c)]
  congr 1
  have := idx_neg (B s) c
  exact decide_eq_decide.2 this
theorem appendChecksum (s : ByteArray) (hs : s.size ≤ 1099511627776) (k : Nat) (hk : s.size < k) : impl_AppendChecksum.f k s = some (if 35 ∈ B s then (⟨#[]⟩, false) else if (seal_ (B s)).length ≤ 4000 then (mk (seal_ (B s)), true) else (⟨#[]⟩, false)) := by
  unfold impl_AppendChecksum.f
  have h1 := sum_lt (B s) 7 (by decide)
  have h2 := itoa_len (sum_int (B s))
  have hi : strconv_Itoa.f ((sum (B s) 7 : Nat) : Int) = some ⟨(Lib.itoa ((sum (B s) 7 : Nat) : Int)).toArray⟩ := by
    unfold strconv_Itoa.f
    rw [if_pos (sum_int _)]
  have hz : (⟨(Lib.itoa ((sum (B s) 7 : Nat) : Int)).toArray⟩ : ByteArray).size ≤ 20 := by rw [size_list]; exact h2
  have hB : B ⟨(Lib.itoa ((sum (B s) 7 : Nat) : Int)).toArray⟩ = Lib.itoa ((sum (B s) 7 : Nat) : Int) := B_mk _
  rw [if_pos (by omega), Option.bind_some, checksum s (by omega) k hk, Option.bind_some, hi, Option.bind_some]
  generalize (⟨(Lib.itoa ((sum (B s) 7 : Nat) : Int)).toArray⟩ : ByteArray) = N at hz hB ⊢
  rw [if_pos (by rw [ByteArray.size_append, size_one]; omega), Option.bind_some, sealed s N hB, contains_one, Option.bind_some, mk_size]
  by_cases h : 35 ∈ B s
  · rw [if_pos (decide_eq_true h), if_pos h]
  · rw [if_neg (by rw [decide_eq_false h]; decide), if_neg h]
    by_cases h3 : (seal_ (B s)).length ≤ 4000
    · rw [if_neg (by omega), if_pos h3]
    · rw [if_pos (by omega), if_neg h3]
theorem app5 (a : ByteArray) (x b : ByteArray) : B (((a ++ (⟨#[32]⟩ : ByteArray)) ++ x ++ (⟨#[64]⟩ : ByteArray)) ++ b) = B a ++ 32 :: (B x ++ 64 :: B b) := by
  rw [B_append, B_append, B_append, B_append, B_one, B_one]
  simp
theorem l12Line (n : Int) (hn : -1000000 ≤ n ∧ n ≤ 1000000) (c r : ByteArray) (hc : c.size ≤ 1073741824) (hr : r.size ≤ 1073741824) (k : Nat) (hk : 3000000 + c.size + r.size < k) :
    spec_l12Line.f k n c r = some (mk (enc n (B c) (B r))) := by
  unfold spec_l12Line.f
  have hi := itoa_len (n := n) (by omega)
  have hz : (⟨(Lib.itoa n).toArray⟩ : ByteArray).size ≤ 20 := by rw [size_list]; exact hi
  generalize hN : (⟨(Lib.itoa n).toArray⟩ : ByteArray) = N at hz
  have hB : B N = Lib.itoa n := by rw [← hN, B_mk]
  have s1 : (⟨#[32]⟩ : ByteArray).size = 1 := rfl
  have s2 : (⟨#[64]⟩ : ByteArray).size = 1 := rfl
  have s3 : (⟨#[10]⟩ : ByteArray).size = 1 := rfl
  rw [num n (by omega) k (by omega), Option.bind_some, hN, if_pos (by omega), Option.bind_some, if_pos (by rw [ByteArray.size_append, s1]; omega), Option.bind_some,
    if_pos (by rw [ByteArray.size_append, ByteArray.size_append, s1]; omega), Option.bind_some, if_pos (by rw [ByteArray.size_append, ByteArray.size_append, ByteArray.size_append, s1, s2]; omega)]
  have hs : ((N ++ (⟨#[32]⟩ : ByteArray)) ++ c ++ (⟨#[64]⟩ : ByteArray) ++ r).size = N.size + c.size + r.size + 2 := by
    rw [ByteArray.size_append, ByteArray.size_append, ByteArray.size_append, ByteArray.size_append, s1, s2]
    omega
  rw [l1Seal _ (by rw [hs]; omega) k (by rw [hs]; omega), Option.bind_some]
  have h5 := seal_len (B ((N ++ (⟨#[32]⟩ : ByteArray)) ++ c ++ (⟨#[64]⟩ : ByteArray) ++ r))
  rw [B_len, hs] at h5
  rw [if_pos (by rw [mk_size]; omega)]
  congr 1
  apply B_inj
  rw [B_append, B_mk', B_mk', B_one, app5, hB]
  rfl
theorem not_hash {n : Int} {c r : ByteArray} (h : okRec c r = true) : 35 ∉ body n (B c) (B r) := by
  unfold okRec at h
  simp only [Bool.and_eq_true, List.all_eq_true] at h
  obtain ⟨⟨⟨_, hc, _⟩, _⟩, hr, _⟩ := h
  unfold body
  intro hm
  rcases List.mem_append.1 hm with hm | hm
  · have := itoa_bytes n _ hm
    revert this
    decide
  · rcases List.mem_cons.1 hm with hm | hm
    · revert hm
      decide
    · rcases List.mem_append.1 hm with hm | hm
      · have := hc _ hm
        revert this
        decide
      · rcases List.mem_cons.1 hm with hm | hm
        · revert hm
          decide
        · have := hr _ hm
          revert this
          decide
theorem okRec_sizes {c r : ByteArray} (h : okRec c r = true) : c.size ≤ 160 ∧ r.size ≤ 250 := by
  unfold okRec at h
  simp only [Bool.and_eq_true, decide_eq_true_eq] at h
  omega
theorem body_len {n : Int} (hn : -1000000 ≤ n ∧ n ≤ 1000000) {c r : ByteArray} (h : okRec c r = true) : (body n (B c) (B r)).length ≤ 432 := by
  have := okRec_sizes h
  have hi := itoa_len (n := n) (by omega)
  unfold body
  simp only [List.length_append, List.length_cons, B_len]
  omega
/-- What both say of a record with a number. -/
def encoded (n : Int) (c r : ByteArray) : ByteArray × Bool := if (0 ≤ n ∧ n ≤ 59) ∧ okRec c r = true then (mk (enc n (B c) (B r)), true) else (⟨#[]⟩, false)
theorem specEncode (n : Int) (c r : ByteArray) (hc : c.size ≤ 1073741824) (hr : r.size ≤ 1073741824) (k : Nat) (hk : 3000000 + c.size + r.size < k) : spec_EncodeRecord.f k n c r = some (encoded n c r) := by
  unfold spec_EncodeRecord.f spec_l1In.f encoded
  by_cases h1 : 0 ≤ n
  · rw [if_pos (show n ≥ 0 from h1), Option.bind_some]
    by_cases h2 : n ≤ 59
    · rw [if_pos (by simpa using h2), l12Record c r (by omega) (by omega) k (by omega) (by omega), Option.bind_some]
      cases h3 : okRec c r with
      | true => rw [if_pos rfl, l12Line n (by omega) c r hc hr k hk, Option.bind_some, if_pos ⟨⟨h1, h2⟩, rfl⟩]
      | false => rw [if_neg (by simp), if_neg (by simp)]
    · rw [if_neg (by simpa using h2), if_neg (fun h => h2 h.1.2)]
  · rw [if_neg (show ¬ n ≥ 0 from h1), Option.bind_some, if_neg (by simp), if_neg (fun h => h1 h.1.1)]
theorem encode_j0 (n : Int) (hn : 0 ≤ n ∧ n ≤ 59) (c r : ByteArray) (h : okRec c r = true) (k : Nat) (hk : 1000 < k) : impl_EncodeRecord.j0 k n false c r = some (mk (enc n (B c) (B r)), true) := by
  obtain ⟨k, rfl⟩ := pred_of_lt hk
  obtain ⟨hc, hr⟩ := okRec_sizes h
  simp only [impl_EncodeRecord.j0]
  have hi := itoa_len (n := n) (by omega)
  have hI : strconv_Itoa.f n = some ⟨(Lib.itoa n).toArray⟩ := by
    unfold strconv_Itoa.f
    rw [if_pos (by omega)]
  have hz : (⟨(Lib.itoa n).toArray⟩ : ByteArray).size ≤ 20 := by rw [size_list]; exact hi
  generalize hN : (⟨(Lib.itoa n).toArray⟩ : ByteArray) = N at hz hI
  have hB : B N = Lib.itoa n := by rw [← hN, B_mk]
  have s1 : (⟨#[32]⟩ : ByteArray).size = 1 := rfl
  have s2 : (⟨#[64]⟩ : ByteArray).size = 1 := rfl
  have s3 : (⟨#[10]⟩ : ByteArray).size = 1 := rfl
  rw [if_neg (by simp), hI, Option.bind_some, if_pos (by omega), Option.bind_some, if_pos (by rw [ByteArray.size_append, s1]; omega), Option.bind_some,
    if_pos (by rw [ByteArray.size_append, ByteArray.size_append, s1]; omega), Option.bind_some, if_pos (by rw [ByteArray.size_append, ByteArray.size_append, ByteArray.size_append, s1, s2]; omega)]
  have hs : ((N ++ (⟨#[32]⟩ : ByteArray)) ++ c ++ (⟨#[64]⟩ : ByteArray) ++ r).size = N.size + c.size + r.size + 2 := by
    rw [ByteArray.size_append, ByteArray.size_append, ByteArray.size_append, ByteArray.size_append, s1, s2]
    omega
  have hb : B ((N ++ (⟨#[32]⟩ : ByteArray)) ++ c ++ (⟨#[64]⟩ : ByteArray) ++ r) = body n (B c) (B r) := by rw [app5, hB]; rfl
  have h5 := seal_len (body n (B c) (B r))
  have h6 := body_len (n := n) (by omega) h
  rw [appendChecksum _ (by rw [hs]; omega) k (by rw [hs]; omega), hb, if_neg (not_hash h), if_pos (by omega), Option.bind_some, if_pos (by rw [mk_size]; omega)]
  have e : mk (seal_ (body n (B c) (B r))) ++ (⟨#[10]⟩ : ByteArray) = mk (enc n (B c) (B r)) := by
    apply B_inj
    rw [B_append, B_mk', B_mk', B_one]
    rfl
  rw [e]
theorem implEncode (n : Int) (c r : ByteArray) (hc : c.size ≤ 1073741824) (hr : r.size ≤ 1073741824) (k : Nat) (hk : 3000000 + c.size + r.size < k) : impl_EncodeRecord.f k n c r = some (encoded n c r) := by
  have hj : impl_EncodeRecord.j0 k n true c r = some (⟨#[]⟩, false) := by
    obtain ⟨k, rfl⟩ := pred_of_lt hk
    simp only [impl_EncodeRecord.j0]
    exact if_pos trivial
  unfold impl_EncodeRecord.f impl_in.f encoded
  by_cases h1 : 0 ≤ n
  · rw [if_pos (show n ≥ 0 from h1), Option.bind_some]
    by_cases h2 : n ≤ 59
    · rw [if_pos (by simpa using h2), isValidRecord c r (by omega) (by omega) k (by omega) (by omega), Option.bind_some]
      cases h3 : okRec c r with
      | true => rw [if_pos ⟨⟨h1, h2⟩, rfl⟩]; exact encode_j0 n ⟨h1, h2⟩ c r h3 k (by omega)
      | false => rw [if_neg (by simp)]; exact hj
    · rw [if_neg (by simpa using h2), if_neg (fun h => h2 h.1.2)]; exact hj
  · rw [if_neg (show ¬ n ≥ 0 from h1), Option.bind_some, if_neg (by simp), if_neg (fun h => h1 h.1.1)]; exact hj
end Go.Proofs.YtpknehbhbiofaaaDoor.Line
