/- The bytes of a log that survive a crash: the reference's CrashLog and the program's. -/
import Derived.Test.YtbbnecjaojobfaaDoorEvCrashP
set_option linter.unusedVariables false
set_option linter.unusedSimpArgs false
namespace Go.Proofs.YtbbnecjaojobfaaDoor.Ev.Lg
theorem bytesOf_u8s : ∀ l : List UInt8, bytesOf (u8s l) = some l
  | [] => rfl
  | b :: l => by
    have ih := bytesOf_u8s l
    unfold u8s at ih ⊢
    rw [List.map_cons, bytesOf, ih]
    simp
theorem u8s_set (l : List UInt8) (k : Nat) (b : UInt8) : (u8s l).set k (.v (.int .u8 (b.toNat : Int))) = u8s (l.set k b) := by simp [u8s, List.map_set]
theorem u8s_get (l : List UInt8) (k : Nat) (b : UInt8) (h : l[k]? = some b) : (u8s l)[k]? = some (.v (.int .u8 (b.toNat : Int))) := by simp [u8s, h]
theorem wrap255 (b : UInt8) : IntKind.u8.wrap (255 - (b.toNat : Int)) = ((255 - b : UInt8).toNat : Int) := by
  have h := b.toNat_lt
  rw [UInt8.toNat_sub_of_le _ _ (by rw [UInt8.le_iff_toNat_le]; show b.toNat ≤ 255; omega)]
  have h2 : (255 : UInt8).toNat = 255 := rfl
  rw [h2]
  simp only [IntKind.wrap, IntKind.bits, IntKind.signed, Bool.false_and, Bool.false_eq_true, if_false]
  omega
def okCrash (d p : ByteArray) (n keep : Int) : Bool := okLog d p n && (decide (0 ≤ keep) && decide (keep ≤ p.size))
theorem crashed_plain {d p : List UInt8} {keep : Nat} {torn : Bool} (h : (torn && decide (0 < (keep : Int))) = false) : crashed d p keep torn = d ++ p.take keep := by
  unfold crashed
  rw [if_neg]
  rintro ⟨h1, h2⟩
  subst h1
  have h3 : decide (0 < (keep : Int)) = true := decide_eq_true (by omega)
  rw [h3] at h
  cases h
theorem crashed_torn {d p : List UInt8} {k : Nat} : crashed d p (k + 1) true = d ++ (p.take (k + 1)).set k (255 - (p.take (k + 1)).getD k 0) := by
  unfold crashed
  rw [if_pos ⟨rfl, by omega⟩]
  rfl
theorem crash_s (d p : ByteArray) (n keep : Int) (torn : Bool) (hd : d.size ≤ 1073741824) (hp : p.size ≤ 1073741824) : (okCrash d p n keep = true → ev E0 8 [.agg [st d, st p, i64 n], i64 keep, bl torn] [] = some (.tup [st (mk (crashed (B d) (B p) keep.toNat torn)), bl true], [])) ∧
    (okCrash d p n keep = false → ev E0 8 [.agg [st d, st p, i64 n], i64 keep, bl torn] [] = some (.tup [st ⟨#[]⟩, bl false], [])) := by
  rw [e8]
  unfold runF
  have hv := valid_s d p n hd hp
  have hi := in_s keep 0 (p.size : Int)
  constructor
  · intro h
    unfold okCrash at h
    rw [Bool.and_eq_true] at h
    rw [h.1] at hv
    rw [h.2] at hi
    simp only [Bool.and_eq_true, decide_eq_true_eq] at h
    obtain ⟨_, k0, k1⟩ := h
    obtain ⟨k, rfl⟩ : ∃ k : Nat, keep = k := ⟨keep.toNat, by omega⟩
    rw [Int.toNat_natCast]
    have hk : k ≤ p.size := by omega
    have hx : p.extract 0 k = mk ((B p).take k) := extract_mk p 0 k
    have hlen : ((B p).take k).length = k := by rw [List.length_take, B_len]; omega
    have hxs : (mk ((B p).take k)).size = k := by rw [mk_size, hlen]
    have hxd : (mk ((B p).take k)).data.toList = (B p).take k := B_mk' _
    have hks : k ≤ 140737488355328 := by omega
    have hQ : ∀ Q : List UInt8, Q.length = k → bytesOf (List.take k (u8s Q)) = some Q := fun Q hq => by rw [List.take_of_length_le (by simp [u8s, hq]), bytesOf_u8s]
    have hb1 := hQ ((B p).take k) hlen
    have hadd : d ++ mk ((B p).take k) = mk (B d ++ (B p).take k) := B_inj (by rw [B_append, B_mk', B_mk'])
    have hmk : (⟨((B p).take k).toArray⟩ : ByteArray) = mk ((B p).take k) := rfl
    have hsz : d.size + k ≤ 9223372036854775807 := by omega
    cases ht : (torn && decide (0 < (k : Int))) with
    | false =>
      rw [crashed_plain ht]
      have htt : torn = true → ¬ 0 < (k : Int) := by
        intro h2 h3
        rw [h2, decide_eq_true h3] at ht
        cases ht
      have hul : (u8s ((B p).take k)).length = k := by rw [← hlen]; simp [u8s]
      cases torn with
      | false => simp -implicitDefEqProofs [L8, hv, hi, hk, hx, hxs, hxd, hks, hul, hb1, hmk, hadd, hsz]
      | true =>
        have h5 := htt rfl
        have h5n : ¬ 0 < k := by omega
        simp -implicitDefEqProofs [L8, hv, hi, hk, hx, hxs, hxd, hks, hul, h5, h5n, hb1, hmk, hadd, hsz]
    | true =>
      rw [Bool.and_eq_true, decide_eq_true_eq] at ht
      obtain ⟨rfl, ht⟩ := ht
      obtain ⟨j, rfl⟩ : ∃ j, k = j + 1 := ⟨k - 1, by omega⟩
      have hul : (u8s ((B p).take (j + 1))).length = j + 1 := by rw [← hlen]; simp [u8s]
      have hwj : IntKind.i64.wrap (((j + 1 : Nat) : Int) - 1) = j := by rw [wr64 (by omega) (by omega)]; omega
      have hjl : j < ((B p).take (j + 1)).length := by omega
      have hjb : ((B p).take (j + 1))[j]? = some (((B p).take (j + 1)).getD j 0) := by rw [List.getD_eq_getElem?_getD, List.getElem?_eq_getElem hjl]; rfl
      rw [crashed_torn]
      generalize ((B p).take (j + 1)).getD j 0 = b at *
      have hug := u8s_get _ _ _ hjb
      have hw255 := wrap255 b
      have hus := u8s_set ((B p).take (j + 1)) j (255 - b)
      have hb2 := hQ (((B p).take (j + 1)).set j (255 - b)) (by rw [List.length_set]; exact hlen)
      have hadd2 : d ++ mk (((B p).take (j + 1)).set j (255 - b)) = mk (B d ++ ((B p).take (j + 1)).set j (255 - b)) := B_inj (by rw [B_append, B_mk', B_mk'])
      have hms : (mk (((B p).take (j + 1)).set j (255 - b))).size = j + 1 := by rw [mk_size, List.length_set, hlen]
      have hjj : j < j + 1 := by omega
      have hul2 : (u8s (((B p).take (j + 1)).set j (255 - b))).length = j + 1 := by simp only [u8s, List.length_map, List.length_set]; exact hlen
      have hmk2 : (⟨(((B p).take (j + 1)).set j (255 - b)).toArray⟩ : ByteArray) = mk (((B p).take (j + 1)).set j (255 - b)) := rfl
      rw [cs1] at hi hwj
      have hwj2 : IntKind.i64.wrap (j : Int) = j := wr64 (by omega) (by omega)
      rw [cs1] at k0 k1
      have hug2 : ∀ h, (u8s ((B p).take (j + 1)))[j]'h = AV.v (.int .u8 (b.toNat : Int)) := fun h => (List.getElem?_eq_some_iff.1 hug).2
      have hji : (j : Int) < (j : Int) + 1 := by omega
      have hjp : (0 : Int) < (j : Int) + 1 := by omega
      have hj0 : 0 < j + 1 := by omega
      rw [cs1]
      simp -implicitDefEqProofs [L8, hv, hi, hk, hx, hxs, hxd, hks, hul, hwj, hug, hw255, hus, hb2, hmk2, hadd2, hms, hsz, hjj, hjp, hj0, hwj2, k0, k1, hug2, hji, hul2]
  · intro h
    unfold okCrash at h
    cases hk : okLog d p n with
    | false =>
      rw [hk] at hv
      simp -implicitDefEqProofs [L8, hv]
    | true =>
      rw [hk] at hv h
      rw [Bool.true_and] at h
      rw [h] at hi
      simp -implicitDefEqProofs [L8, hv, hi]
/-- The program appends first, and turns the last byte of all. -/
theorem crashed_all {d p : List UInt8} {j : Nat} (hj : j + 1 ≤ p.length) : crashed d p (j + 1) true = (d ++ p.take (j + 1)).set (d.length + j) (255 - (d ++ p.take (j + 1)).getD (d.length + j) 0) := by
  rw [crashed_torn, List.set_append_right _ _ (by omega), Nat.add_sub_cancel_left, List.getD_eq_getElem?_getD, List.getD_eq_getElem?_getD, List.getElem?_append_right (by omega), Nat.add_sub_cancel_left]
theorem crash_i (d p : ByteArray) (n keep : Int) (torn : Bool) (hd : d.size ≤ 1073741824) (hp : p.size ≤ 1073741824) : (okCrash d p n keep = true → ev E0 10 [.agg [st d, st p, i64 n], i64 keep, bl torn] [] = some (.tup [st (mk (crashed (B d) (B p) keep.toNat torn)), bl true], [])) ∧
    (okCrash d p n keep = false → ev E0 10 [.agg [st d, st p, i64 n], i64 keep, bl torn] [] = some (.tup [st ⟨#[]⟩, bl false], [])) := by
  rw [e10]
  unfold runF
  have hv := valid_i d p n hd hp
  have hi := in_i keep 0 (p.size : Int)
  constructor
  · intro h
    unfold okCrash at h
    rw [Bool.and_eq_true] at h
    rw [h.1] at hv
    rw [h.2] at hi
    simp only [Bool.and_eq_true, decide_eq_true_eq] at h
    obtain ⟨_, k0, k1⟩ := h
    obtain ⟨k, rfl⟩ : ∃ k : Nat, keep = k := ⟨keep.toNat, by omega⟩
    rw [Int.toNat_natCast]
    have hk : k ≤ p.size := by omega
    have hlen : ((B p).take k).length = k := by rw [List.length_take, B_len]; omega
    have hall : (B d ++ (B p).take k).length = d.size + k := by rw [List.length_append, B_len, hlen]
    have hx : p.extract 0 k = mk ((B p).take k) := extract_mk p 0 k
    have hmk : (⟨((B p).take k).toArray⟩ : ByteArray) = mk ((B p).take k) := rfl
    have hadd : d ++ mk ((B p).take k) = mk (B d ++ (B p).take k) := B_inj (by rw [B_append, B_mk', B_mk'])
    have hm0 : (mk ((B p).take k)).size = k := by rw [mk_size, hlen]
    have hxs : (mk (B d ++ (B p).take k)).size = d.size + k := by rw [mk_size, hall]
    have hxd : (mk (B d ++ (B p).take k)).data.toList = B d ++ (B p).take k := B_mk' _
    have hsz : d.size + k ≤ 9223372036854775807 := by omega
    have hsz2 : d.size + k ≤ 140737488355328 := by omega
    have hQ : ∀ Q : List UInt8, Q.length = d.size + k → bytesOf (List.take (d.size + k) (u8s Q)) = some Q := fun Q hq => by rw [List.take_of_length_le (by simp [u8s, hq]), bytesOf_u8s]
    have hb1 := hQ (B d ++ (B p).take k) hall
    have hmk1 : (⟨(B d ++ (B p).take k).toArray⟩ : ByteArray) = mk (B d ++ (B p).take k) := rfl
    have hul : (u8s (B d ++ (B p).take k)).length = d.size + k := by rw [← hall]; simp [u8s]
    cases ht : (torn && decide (0 < (k : Int))) with
    | false =>
      rw [crashed_plain ht]
      have htt : torn = true → ¬ 0 < (k : Int) := by
        intro h2 h3
        rw [h2, decide_eq_true h3] at ht
        cases ht
      generalize B d ++ (B p).take k = Q at *
      cases torn with
      | false => simp -implicitDefEqProofs [L10, hv, hi, hk, hx, hmk, hm0, hxs, hxd, hsz, hsz2, hul, hb1, hmk1, hadd]
      | true =>
        have h5 := htt rfl
        have h5n : ¬ 0 < k := by omega
        simp -implicitDefEqProofs [L10, hv, hi, hk, hx, hmk, hm0, hxs, hxd, hsz, hsz2, hul, h5, h5n, hb1, hmk1, hadd]
    | true =>
      rw [Bool.and_eq_true, decide_eq_true_eq] at ht
      obtain ⟨rfl, ht⟩ := ht
      obtain ⟨j, rfl⟩ : ∃ j, k = j + 1 := ⟨k - 1, by omega⟩
      rw [crashed_all (by rw [B_len]; omega), B_len]
      generalize B d ++ (B p).take (j + 1) = Q at *
      have hz : d.size + j < Q.length := by omega
      have hjb : Q[d.size + j]? = some (Q.getD (d.size + j) 0) := by rw [List.getD_eq_getElem?_getD, List.getElem?_eq_getElem hz]; rfl
      generalize Q.getD (d.size + j) 0 = b at *
      have hug := u8s_get _ _ _ hjb
      have hug2 : ∀ h, (u8s Q)[d.size + j]'h = AV.v (.int .u8 (b.toNat : Int)) := fun h => (List.getElem?_eq_some_iff.1 hug).2
      have hw255 := wrap255 b
      have hus := u8s_set Q (d.size + j) (255 - b)
      have hb2 := hQ (Q.set (d.size + j) (255 - b)) (by rw [List.length_set]; exact hall)
      have hmk2 : (⟨(Q.set (d.size + j) (255 - b)).toArray⟩ : ByteArray) = mk (Q.set (d.size + j) (255 - b)) := rfl
      have hul2 : (u8s (Q.set (d.size + j) (255 - b))).length = d.size + (j + 1) := by simp only [u8s, List.length_map, List.length_set]; exact hall
      obtain ⟨z, hzd⟩ : ∃ z, d.size + j = z := ⟨_, rfl⟩
      have hzz : d.size + (j + 1) = z + 1 := by omega
      rw [hzz] at hxs hsz2 hul hb2 hul2 hall
      rw [hzd] at hug hug2 hus hb2 hmk2 hul2
      have hgo : d.size + (j + 1) ≤ 9223372036854775807 := by omega
      rw [hzd]
      have hwj : IntKind.i64.wrap ((z : Int) + 1 - 1) = z := by rw [wr64 (by omega) (by omega)]; omega
      have hwj2 : IntKind.i64.wrap (z : Int) = z := wr64 (by omega) (by omega)
      have hji : (z : Int) < (z : Int) + 1 := by omega
      rw [cs1] at hi k0 k1
      have hjp : (0 : Int) < (j : Int) + 1 := by omega
      have hj0 : 0 < j + 1 := by omega
      rw [cs1]
      simp -implicitDefEqProofs [L10, hv, hi, hk, hx, hmk, hm0, hxs, hxd, hsz, hsz2, hul, hwj, hwj2, hug, hug2, hw255, hus, hb2, hmk2, hji, hjp, hj0, k0, k1, hadd, hul2, hgo]
  · intro h
    unfold okCrash at h
    cases hk : okLog d p n with
    | false =>
      rw [hk] at hv
      simp -implicitDefEqProofs [L10, hv]
    | true =>
      rw [hk] at hv h
      rw [Bool.true_and] at h
      rw [h] at hi
      simp -implicitDefEqProofs [L10, hv, hi]
end Go.Proofs.YtbbnecjaojobfaaDoor.Ev.Lg
