/- Logs appended to, made durable, read and recovered: the reference's functions and the program's. -/
import Derived.Test.YtbbnecjaojobfaaDoorEvLogV
set_option linter.unusedVariables false
set_option linter.unusedSimpArgs false
namespace Go.Proofs.YtbbnecjaojobfaaDoor.Ev.Lg
theorem add_z {x y : Int} (h : x = y) : x = y := h
/-- The log and the status behind an appended record. -/
def appP (d p : ByteArray) (n : Int) (c r : ByteArray) : ByteArray := if (okLog d p n && okRec c r) = true ∧ n ≠ 60 then p ++ mk (enc n (B c) (B r)) else p
def appN (d p : ByteArray) (n : Int) (c r : ByteArray) : Int := if (okLog d p n && okRec c r) = true ∧ n ≠ 60 then n + 1 else n
def appS (d p : ByteArray) (n : Int) (c r : ByteArray) : Int := if (okLog d p n && okRec c r) = true then if n = 60 then 2 else 0 else 1
theorem enc_len {n : Int} (hn : 0 ≤ n ∧ n ≤ 60) {c r : ByteArray} (h : okRec c r = true) : (enc n (B c) (B r)).length ≤ 460 := by
  have h1 := body_len (n := n) (by omega) h
  have h2 := seal_len (body n (B c) (B r))
  unfold enc
  rw [List.length_append, List.length_singleton]
  omega
theorem app_bad {d p : ByteArray} {n : Int} {c r : ByteArray} (h : (okLog d p n && okRec c r) = false) : appP d p n c r = p ∧ appN d p n c r = n ∧ appS d p n c r = 1 := by
  unfold appP appN appS
  rw [h]
  simp
theorem app_full {d p : ByteArray} {c r : ByteArray} (h : (okLog d p 60 && okRec c r) = true) : appP d p 60 c r = p ∧ appN d p 60 c r = 60 ∧ appS d p 60 c r = 2 := by
  unfold appP appN appS
  rw [h]
  simp
theorem app_ok {d p : ByteArray} {n : Int} {c r : ByteArray} (h : (okLog d p n && okRec c r) = true) (hn : n ≠ 60) : appP d p n c r = p ++ mk (enc n (B c) (B r)) ∧ appN d p n c r = n + 1 ∧ appS d p n c r = 0 := by
  unfold appP appN appS
  rw [h, if_pos ⟨rfl, hn⟩, if_pos ⟨rfl, hn⟩, if_pos rfl, if_neg hn]
  exact ⟨rfl, rfl, rfl⟩
theorem app_s (d p : ByteArray) (n : Int) (c r : ByteArray) (hd : d.size ≤ 1073741824) (hp : p.size ≤ 1073741824) (hc : c.size ≤ 500000) (hr : r.size ≤ 500000) :
    ev E0 20 [.agg [st d, st p, i64 n], .agg [st c, st r]] [] = some (.tup [.agg [st d, st (appP d p n c r), i64 (appN d p n c r)], i64 (appS d p n c r)], []) := by
  rw [e20]
  unfold runF
  have hv := valid_s d p n hd hp
  have hw := record_s c r (by omega) (by omega)
  cases hk : okLog d p n with
  | false =>
    rw [hk] at hv
    obtain ⟨a1, a2, a3⟩ := app_bad (d := d) (p := p) (n := n) (c := c) (r := r) (by rw [hk]; rfl)
    rw [a1, a2, a3]
    simp -implicitDefEqProofs [L20, hv]
  | true =>
    rw [hk] at hv
    cases hk2 : okRec c r with
    | false =>
      rw [hk2] at hw
      obtain ⟨a1, a2, a3⟩ := app_bad (d := d) (p := p) (n := n) (c := c) (r := r) (by rw [hk, hk2]; rfl)
      rw [a1, a2, a3]
      simp -implicitDefEqProofs [L20, hv, hw]
    | true =>
      rw [hk2] at hw
      obtain ⟨z1, z2, z3⟩ := okLog_sizes hk
      obtain ⟨m, rfl⟩ : ∃ m : Nat, n = m := ⟨n.toNat, by omega⟩
      by_cases h60 : (m : Int) = 60
      · rw [h60] at hk hv ⊢
        obtain ⟨a1, a2, a3⟩ := app_full (d := d) (p := p) (c := c) (r := r) (by rw [hk, hk2]; rfl)
        rw [a1, a2, a3]
        simp -implicitDefEqProofs [L20, hv, hw]
      · obtain ⟨a1, a2, a3⟩ := app_ok (d := d) (p := p) (n := m) (c := c) (r := r) (by rw [hk, hk2]; rfl) h60
        rw [a1, a2, a3]
        have hl := line_s m (by omega) c r hc hr
        have he := enc_len (n := (m : Int)) (by omega) hk2
        have h2 := okRec_sizes hk2
        have hms : (mk (enc (m : Int) (B c) (B r))).size ≤ 460 := by rw [mk_size]; exact he
        generalize mk (enc (m : Int) (B c) (B r)) = q at hl hms ⊢
        have hsz : p.size + q.size ≤ 9223372036854775807 := by omega
        have hw1 : IntKind.i64.wrap ((m : Int) + 1) = (m : Int) + 1 := wr64 (by omega) (by omega)
        have h6n : ¬ m = 60 := by omega
        simp -implicitDefEqProofs [L20, hv, hw, h60, h6n, hl, hsz, hw1]
theorem app_i (d p : ByteArray) (n : Int) (c r : ByteArray) (hd : d.size ≤ 1073741824) (hp : p.size ≤ 1073741824) (hc : c.size ≤ 500000) (hr : r.size ≤ 500000) :
    ev E0 19 [.agg [st d, st p, i64 n], .agg [st c, st r]] [] = some (.tup [.agg [st d, st (appP d p n c r), i64 (appN d p n c r)], i64 (appS d p n c r)], []) := by
  rw [e19]
  unfold runF
  have hv := valid_i d p n hd hp
  have hw := record_i c r (by omega) (by omega)
  cases hk : okLog d p n with
  | false =>
    rw [hk] at hv
    obtain ⟨a1, a2, a3⟩ := app_bad (d := d) (p := p) (n := n) (c := c) (r := r) (by rw [hk]; rfl)
    rw [a1, a2, a3]
    simp -implicitDefEqProofs [L19, hv]
  | true =>
    rw [hk] at hv
    cases hk2 : okRec c r with
    | false =>
      rw [hk2] at hw
      obtain ⟨a1, a2, a3⟩ := app_bad (d := d) (p := p) (n := n) (c := c) (r := r) (by rw [hk, hk2]; rfl)
      rw [a1, a2, a3]
      simp -implicitDefEqProofs [L19, hv, hw]
    | true =>
      rw [hk2] at hw
      obtain ⟨z1, z2, z3⟩ := okLog_sizes hk
      obtain ⟨m, rfl⟩ : ∃ m : Nat, n = m := ⟨n.toNat, by omega⟩
      by_cases h60 : (m : Int) = 60
      · rw [h60] at hk hv ⊢
        obtain ⟨a1, a2, a3⟩ := app_full (d := d) (p := p) (c := c) (r := r) (by rw [hk, hk2]; rfl)
        rw [a1, a2, a3]
        simp -implicitDefEqProofs [L19, hv, hw]
      · obtain ⟨a1, a2, a3⟩ := app_ok (d := d) (p := p) (n := m) (c := c) (r := r) (by rw [hk, hk2]; rfl) h60
        rw [a1, a2, a3]
        have hl := encode_i m (by omega) c r hc hr
        rw [if_pos hk2] at hl
        have he := enc_len (n := (m : Int)) (by omega) hk2
        have h2 := okRec_sizes hk2
        have hms : (mk (enc (m : Int) (B c) (B r))).size ≤ 460 := by rw [mk_size]; exact he
        generalize mk (enc (m : Int) (B c) (B r)) = q at hl hms ⊢
        have hsz : p.size + q.size ≤ 9223372036854775807 := by omega
        have hw1 : IntKind.i64.wrap ((m : Int) + 1) = (m : Int) + 1 := wr64 (by omega) (by omega)
        have h6n : ¬ m = 60 := by omega
        simp -implicitDefEqProofs [L19, hv, hw, h60, h6n, hl, hsz, hw1]
theorem sync_s (d p : ByteArray) (n : Int) (hd : d.size ≤ 1073741824) (hp : p.size ≤ 1073741824) :
    ev E0 26 [.agg [st d, st p, i64 n]] [] = some (if okLog d p n = true then .tup [.agg [st (d ++ p), st ⟨#[]⟩, i64 n], bl true] else .tup [.agg [st ⟨#[]⟩, st ⟨#[]⟩, i64 0], bl false], []) := by
  rw [e26]
  unfold runF
  have hv := valid_s d p n hd hp
  have hsz : d.size + p.size ≤ 9223372036854775807 := by omega
  cases hk : okLog d p n <;> rw [hk] at hv <;> simp -implicitDefEqProofs [L26, hv, hsz]
theorem sync_i (d p : ByteArray) (n : Int) (hd : d.size ≤ 1073741824) (hp : p.size ≤ 1073741824) :
    ev E0 25 [.agg [st d, st p, i64 n]] [] = some (if okLog d p n = true then .tup [.agg [st (d ++ p), st ⟨#[]⟩, i64 n], bl true] else .tup [.agg [st ⟨#[]⟩, st ⟨#[]⟩, i64 0], bl false], []) := by
  rw [e25]
  unfold runF
  have hv := valid_i d p n hd hp
  have hsz : d.size + p.size ≤ 9223372036854775807 := by omega
  cases hk : okLog d p n <;> rw [hk] at hv <;> simp -implicitDefEqProofs [L25, hv, hsz]
/-- The records read at the start of a text. -/
def recs (l : List UInt8) : List AV := ((run 60 0 l).map (·.1)).map recE
theorem recs_len (l : List UInt8) : (recs l).length = (run 60 0 l).length := by simp [recs]
theorem records_ok_s (d p : ByteArray) (n : Int) (hd : d.size ≤ 1073741824) (hp : p.size ≤ 1073741824) (h : okLog d p n = true) :
    ev E0 28 [.agg [st d, st p, i64 n]] [] = some (.tup [.sl 0 0 (run 60 0 (B d ++ B p)).length, bl true], [some ⟨33, 2, 1, false, recs (B d ++ B p)⟩]) := by
  rw [e28]
  unfold runF
  have hv := valid_s d p n hd hp
  rw [h] at hv
  obtain ⟨z1, _, _⟩ := okLog_sizes h
  have hsz : d.size + p.size ≤ 9223372036854775807 := by omega
  have ho := open_s (d ++ p) (by rw [ByteArray.size_append]; omega)
  rw [B_append] at ho
  unfold recs
  generalize ((run 60 0 (B d ++ B p)).map (·.1)).map recE = X at *
  generalize (run 60 0 (B d ++ B p)).length = z at *
  simp -implicitDefEqProofs [L28, hv, hsz, ho]
theorem records_no_s (d p : ByteArray) (n : Int) (hd : d.size ≤ 1073741824) (hp : p.size ≤ 1073741824) (h : okLog d p n = false) :
    ev E0 28 [.agg [st d, st p, i64 n]] [] = some (.tup [.sl 0 0 0, bl false], [some ⟨33, 2, 1, false, []⟩]) := by
  rw [e28]
  unfold runF
  have hv := valid_s d p n hd hp
  rw [h] at hv
  simp -implicitDefEqProofs [L28, hv]
theorem records_ok_i (d p : ByteArray) (n : Int) (hd : d.size ≤ 1073741824) (hp : p.size ≤ 1073741824) (h : okLog d p n = true) :
    ev E0 27 [.agg [st d, st p, i64 n]] [] = some (.tup [.sl 0 0 (run 60 0 (B d ++ B p)).length, bl true], [some ⟨33, 2, 1, false, recs (B d ++ B p)⟩]) := by
  rw [e27]
  unfold runF
  have hv := (records_i d p n hd hp).1 h
  unfold recs
  generalize ((run 60 0 (B d ++ B p)).map (·.1)).map recE = X at *
  generalize (run 60 0 (B d ++ B p)).length = z at *
  simp -implicitDefEqProofs [L27, hv]
theorem records_no_i (d p : ByteArray) (n : Int) (hd : d.size ≤ 1073741824) (hp : p.size ≤ 1073741824) (h : okLog d p n = false) :
    ev E0 27 [.agg [st d, st p, i64 n]] [] = some (.tup [.v (.slice none 0 0), bl false], []) := by
  rw [e27]
  unfold runF
  have hv := (records_i d p n hd hp).2 h
  simp -implicitDefEqProofs [L27, hv]
def recvd (s : ByteArray) : AV := if s.size ≤ 30000 then .tup [.agg [st (mk ((B s).take (tot (run 60 0 (B s))))), st ⟨#[]⟩, i64 ((run 60 0 (B s)).length : Int)], i64 ((tot (run 60 0 (B s)) : Nat) : Int), bl true] else .tup [.agg [st ⟨#[]⟩, st ⟨#[]⟩, i64 0], i64 0, bl false]
theorem recvd_parts (s : ByteArray) : ∃ (d p : ByteArray) (n a : Int) (b : Bool), recvd s = .tup [.agg [st d, st p, i64 n], i64 a, bl b] := by
  unfold recvd
  split
  · exact ⟨_, _, _, _, _, rfl⟩
  · exact ⟨_, _, _, _, _, rfl⟩
theorem recover_s (s : ByteArray) (hs : s.size ≤ 300000) : ev E0 33 [st s] [] = some (recvd s, []) := by
  rw [e33]
  unfold runF recvd
  by_cases h : s.size ≤ 30000
  · have h1 : ¬ (30000 : Int) < (s.size : Int) := by omega
    have h1n : ¬ 30000 < s.size := by omega
    have ho := open_s s hs
    have hx : s.extract 0 (tot (run 60 0 (B s))) = mk ((B s).take (tot (run 60 0 (B s)))) := extract_mk s 0 _
    have ht := tot_le 60 0 (B s)
    rw [B_len] at ht
    have hm : (⟨((B s).take (tot (run 60 0 (B s)))).toArray⟩ : ByteArray) = mk ((B s).take (tot (run 60 0 (B s)))) := rfl
    rw [if_pos h]
    generalize mk ((B s).take (tot (run 60 0 (B s)))) = q at *
    generalize ((run 60 0 (B s)).map (·.1)).map recE = X at *
    generalize (run 60 0 (B s)).length = z at *
    generalize tot (run 60 0 (B s)) = t at *
    simp -implicitDefEqProofs [L33, h1, h1n, ho, hx, ht]
  · have h1 : (30000 : Int) < (s.size : Int) := by omega
    have h1n : 30000 < s.size := by omega
    rw [if_neg h]
    simp -implicitDefEqProofs [L33, h1, h1n]
theorem recover_i (s : ByteArray) (hs : s.size ≤ 300000) : ev E0 32 [st s] [] = some (recvd s, []) := by
  rw [e32]
  unfold runF recvd
  by_cases h : s.size ≤ 30000
  · have h1 : ¬ (30000 : Int) < (s.size : Int) := by omega
    have h1n : ¬ 30000 < s.size := by omega
    have ho := read_i s hs
    have hx : s.extract 0 (tot (run 60 0 (B s))) = mk ((B s).take (tot (run 60 0 (B s)))) := extract_mk s 0 _
    have ht := tot_le 60 0 (B s)
    rw [B_len] at ht
    have hl := ends_last (run 60 0 (B s)) 0
    rw [Nat.zero_add] at hl
    have hlen : ((0 : Int) :: ends 0 (run 60 0 (B s))).length = (run 60 0 (B s)).length + 1 := by rw [List.length_cons, ends_len]
    rw [hlen] at ho
    rw [if_pos h]
    generalize mk ((B s).take (tot (run 60 0 (B s)))) = q at *
    generalize ((run 60 0 (B s)).map (·.1)).map recE = X at *
    generalize hE : (((0 : Nat) : Int) :: ends 0 (run 60 0 (B s))) = E at *
    generalize (run 60 0 (B s)).length = z at *
    generalize tot (run 60 0 (B s)) = t at *
    have hz : (z : Int) < (z : Int) + 1 := by omega
    have hl2 : ∀ h, E[z]'h = (t : Int) := fun h => (List.getElem?_eq_some_iff.1 hl).2
    simp -implicitDefEqProofs [L32, h1, h1n, ho, hx, ht, hl, hl2, hz]
  · have h1 : (30000 : Int) < (s.size : Int) := by omega
    have h1n : 30000 < s.size := by omega
    rw [if_neg h]
    simp -implicitDefEqProofs [L32, h1, h1n]
end Go.Proofs.YtbbnecjaojobfaaDoor.Ev.Lg
