/- FnStrings: the law, run by the evaluator, answers true. -/
import Derived.Test.YtpoifmkgdfjhbaaDoorEvStrD
set_option linter.unusedVariables false
set_option linter.unusedSimpArgs false
namespace Go.Proofs.YtpoifmkgdfjhbaaDoor.Ev
open Dr Lg
theorem parseV_eq (l : List UInt8) : parseV l = pv' l := (show parseV l = pv l from rfl).trans (pv_eq l)
theorem parse_i (u : ByteArray) (hu : u.size ≤ 1000000) : ev E0 9 [st u] [] = some (.tup [i64 (pv' (B u)).1, bl (pv' (B u)).2], []) := by
  rw [e9, ← parseV_eq]
  show (if _ then _ else _) = _
  rw [if_pos (by omega)]
  rfl
theorem parse_s (u : ByteArray) (hu : u.size ≤ 1000000) : ev E0 10 [st u] [] = some (.tup [i64 (rd (B u)).1, bl (rd (B u)).2], []) := by
  have h := read_s u hu
  generalize rd (B u) = p at *
  obtain ⟨m, b⟩ := p
  rw [e10]
  unfold runF
  simp only [] at h ⊢
  simp -implicitDefEqProofs [L10, h]
/-- What is drawn is read alike. -/
theorem same {t : ByteArray} (h : t ∈ tx ∨ ∃ r : Int, 0 ≤ r ∧ r < 2000 ∧ t = Lg.mk (Lib.itoa (r - 1000))) : pv' (B t) = rd (B t) ∧ t.size ≤ 1000000 := by
  rcases h with h | ⟨r, r0, r1, rfl⟩
  · unfold tx at h
    obtain ⟨l, hl, rfl⟩ := List.mem_map.1 h
    rw [B_mk', mk_size]
    have h1 := List.all_eq_true.1 all3 l hl
    refine ⟨of_decide_eq_true h1, ?_⟩
    simp only [txts, List.mem_cons, List.not_mem_nil, or_false] at hl
    rcases hl with h | h | h | h | h | h | h | h | h | h | h <;> subst h <;> decide
  · have h1 := all1 ⟨r.toNat, by omega⟩
    have h2 : ((r.toNat : Nat) : Int) - 1000 = r - 1000 := by omega
    rw [show (((⟨r.toNat, by omega⟩ : _root_.Fin 2000).val : Int) - 1000) = r - 1000 from h2] at h1
    rw [B_mk', mk_size, ← it_eq (by omega) (by omega)]
    refine ⟨of_decide_eq_true h1, ?_⟩
    rw [it_eq (by omega) (by omega)]
    have := itoa_len (n := r - 1000) (by omega)
    omega
theorem nums_at {r t : Int} (r0 : 0 ≤ r) (r1 : r < 1000) (h : t ∈ nums r) : -1000000 ≤ t ∧ t ≤ 1000000 ∧ ((-999999 ≤ t ∧ t ≤ 999999) → pv' (Lib.itoa t) = (t, true)) := by
  have hb : -1000000 ≤ t ∧ t ≤ 1000000 := by
    simp only [nums, List.mem_cons, List.not_mem_nil, or_false] at h
    omega
  refine ⟨hb.1, hb.2, fun hk => ?_⟩
  rw [← it_eq (by omega) (by omega)]
  have h4 := all4
  simp only [List.all_cons, List.all_nil, Bool.and_true, Bool.and_eq_true] at h4
  have h2 : ok2 t = true := by
    simp only [nums, List.mem_cons, List.not_mem_nil, or_false] at h
    rcases h with h | h | h | h | h | h | h | h | h
    · rw [h]; exact h4.1
    · rw [h]; exact h4.2.1
    · rw [h]; exact h4.2.2.1
    · rw [h]; exact h4.2.2.2.1
    · rw [h]; exact h4.2.2.2.2.1
    · rw [h]; exact h4.2.2.2.2.2
    · omega
    · omega
    · have h1 := all2 ⟨r.toNat, by omega⟩
      rw [show (((⟨r.toNat, by omega⟩ : _root_.Fin 1000).val : Int) - 500) = t by show ((r.toNat : Nat) : Int) - 500 = t; omega] at h1
      exact h1
  exact of_decide_eq_true h2
/-- One byte, changed. -/
theorem u8_at (l : List UInt8) (k : Nat) (d : UInt8) (h : l[k]? = some d) : (u8s l)[k]? = some (AV.v (.int .u8 (d.toNat : Int))) := by
  unfold u8s
  rw [List.getElem?_map, h]
  rfl
theorem bytes_u8s : ∀ l : List UInt8, bytesOf (u8s l) = some l
  | [] => rfl
  | c :: l => by
    have := bytes_u8s l
    unfold u8s at this ⊢
    rw [List.map_cons, bytesOf, this]
    simp
theorem u8s_set (l : List UInt8) (k : Nat) (c : UInt8) : (u8s l).set k (AV.v (.int .u8 (c.toNat : Int))) = u8s (l.set k c) := by
  unfold u8s
  rw [List.map_set]
theorem xor_at (d : UInt8) (e : Int) (h1 : 1 ≤ e) (h2 : e ≤ 255) : ∃ c : UInt8, c ≠ d ∧ IntKind.u8.wrap ((BitVec.ofInt IntKind.u8.bits (d.toNat : Int) ^^^ BitVec.ofInt IntKind.u8.bits e).toNat : Int) = (c.toNat : Int) := by
  obtain ⟨k, rfl⟩ : ∃ k : Nat, e = (k : Int) := ⟨e.toNat, by omega⟩
  refine ⟨d ^^^ UInt8.ofNat k, ?_, ?_⟩
  · intro h
    have : UInt8.ofNat k = 0 := by
      have h3 : d ^^^ (d ^^^ UInt8.ofNat k) = d ^^^ d := by rw [h]
      rw [← UInt8.xor_assoc, UInt8.xor_self, UInt8.zero_xor] at h3
      exact h3
    have h4 := congrArg UInt8.toNat this
    simp at h4
    omega
  · have h1 : (BitVec.ofInt 8 (d.toNat : Int)).toNat = d.toNat := by
      have := UInt8.toNat_lt d
      rw [BitVec.toNat_ofInt]
      omega
    have h2 : (BitVec.ofInt 8 (k : Int)).toNat = (UInt8.ofNat k).toNat := by
      rw [BitVec.toNat_ofInt, UInt8.toNat_ofNat']
      omega
    have h3 : (BitVec.ofInt 8 (d.toNat : Int) ^^^ BitVec.ofInt 8 (k : Int)).toNat = (d ^^^ UInt8.ofNat k).toNat := by
      rw [BitVec.toNat_xor, h1, h2, UInt8.toNat_xor]
    show IntKind.u8.wrap ((BitVec.ofInt 8 (d.toNat : Int) ^^^ BitVec.ofInt 8 (k : Int)).toNat : Int) = _
    rw [h3]
    have := UInt8.toNat_lt (d ^^^ UInt8.ofNat k)
    exact wr8 (by omega) (by omega)
theorem FnStrings (x0 : List Int) (b0 : x0.length ≤ maxLen ∧ ∀ y ∈ x0, (Lit.int .u8 y).wf = true) : ev E0 3 [(AV.lst 1 (x0.map (fun q : Int => (AV.v (.int .u8 q)))))] [] = some (bl true, []) := by
  obtain ⟨hl, hw⟩ := b0
  show ev E0 3 [.lst 1 (cd x0)] [] = _
  have hb := vbig x0
  rw [e3]
  unfold runF
  by_cases h0 : (65536 : Int) < (x0.length : Int)
  · rw [decide_eq_true h0] at hb
    simp -implicitDefEqProofs [L3, hb]
  · rw [decide_eq_false h0] at hb
    have hx := okC_of (by omega) hw
    obtain ⟨r, n, r0, r1, hn, eF⟩ := drawF x0 hx
    obtain ⟨n0, n1, hok⟩ := nums_at r0 r1 hn
    obtain ⟨t, ht, eP⟩ := drawP x0 hx
    obtain ⟨hsame, htz⟩ := same ht
    obtain ⟨x, hxz, eA⟩ := drawA x0 hx
    have f1 := format_i n (by omega) (by omega)
    have f2 := format_s n (by omega) (by omega)
    have p1 := parse_i t htz
    have p2 := parse_s t htz
    rw [hsame] at p1
    have a1 := app_i x (by omega)
    have a2 := app_s x (by omega)
    -- the numeral is read back
    have hback : ∃ (m : Int) (b : Bool), ev E0 9 [st (fmt n).1] [] = some (.tup [i64 m, bl b], []) ∧ ((fmt n).2 = true → b = true ∧ m = n) := by
      by_cases hk : -999999 ≤ n ∧ n ≤ 999999
      · have hf : fmt n = (Lg.mk (Lib.itoa n), true) := by unfold fmt; rw [if_pos hk]
        have hlen := itoa_len (n := n) (by omega)
        have h1 := parse_i (Lg.mk (Lib.itoa n)) (by rw [mk_size]; omega)
        rw [B_mk', hok hk] at h1
        rw [hf]
        exact ⟨n, true, h1, fun _ => ⟨rfl, rfl⟩⟩
      · have hf : fmt n = (⟨#[]⟩, false) := by unfold fmt; rw [if_neg hk]
        rw [hf]
        exact ⟨_, _, parse_i ⟨#[]⟩ (by decide), fun h => by cases h⟩
    obtain ⟨m, b, eB, hbk⟩ := hback
    generalize rd (B t) = pp at *
    obtain ⟨pm, pb⟩ := pp
    simp only [] at p1 p2
    generalize hfm : fmt n = ff at *
    obtain ⟨fs, fb⟩ := ff
    simp only [] at f1 f2 eB hbk
    by_cases hs : 35 ∉ B x ∧ (seal_ (B x)).length ≤ 4000
    · have happ : app x = (Lg.mk (seal_ (B x)), true) := by unfold app; rw [if_pos hs]
      rw [happ] at a1 a2
      simp only [] at a1 a2
      have hvz : (Lg.mk (seal_ (B x))).size = (seal_ (B x)).length := mk_size _
      have hv := verify_i (Lg.mk (seal_ (B x))) (by omega)
      have hup : upto 35 (seal_ (B x)) = B x := upto_append hs.1
      rw [B_mk', hup, if_pos ⟨rfl, by omega⟩, mk_B] at hv
      obtain ⟨Y, hY⟩ : ∃ Y, Y = Lg.mk (seal_ (B x)) := ⟨_, rfl⟩
      have hYB : B Y = seal_ (B x) := by rw [hY, B_mk']
      have hY1 : 0 < Y.size := by
        rw [hY, hvz]
        unfold seal_
        rw [List.length_append, List.length_cons]
        omega
      have hY2 : Y.size ≤ 4000 := by rw [hY, hvz]; exact hs.2
      rw [← hY] at a1 a2 hv
      obtain ⟨k9, u0, u1, e9⟩ := vat x0 hx (by omega) 9 (by omega)
      obtain ⟨k10, w0, w1, e10⟩ := vat x0 hx (by omega) 10 (by omega)
      rw [show ((9 : Nat) : Int) = 9 from rfl] at e9
      rw [show ((10 : Nat) : Int) = 10 from rfl] at e10
      obtain ⟨k, hk⟩ : ∃ k : Nat, Int.tmod k9 (Y.size : Int) = (k : Int) := ⟨(Int.tmod k9 (Y.size : Int)).toNat, by have := Int.tmod_nonneg (Y.size : Int) u0; omega⟩
      have hkY : k < Y.size := by
        have := Int.tmod_lt_of_pos k9 (b := (Y.size : Int)) (by omega)
        omega
      obtain ⟨e, he⟩ : ∃ e : Int, Int.tmod k10 255 = e := ⟨_, rfl⟩
      have he0 : 0 ≤ e := by rw [← he]; exact Int.tmod_nonneg _ w0
      have he1 : e < 255 := by rw [← he]; exact Int.tmod_lt_of_pos _ (by omega)
      have hw1 : IntKind.i64.wrap (1 + e) = 1 + e := wr64 (by omega) (by omega)
      have hw2 : IntKind.u8.wrap (1 + e) = 1 + e := wr8 (by omega) (by omega)
      obtain ⟨d, hd⟩ : ∃ d, (B Y)[k]? = some d := ⟨_, List.getElem?_eq_getElem (by rw [B_len]; exact hkY)⟩
      have hd' : Y.data.toList[k]? = some d := hd
      obtain ⟨c, hc, hxor⟩ := xor_at d (1 + e) (by omega) (by omega)
      have hxor2 : IntKind.u8.wrap ((d.toNat % 2 ^ IntKind.u8.bits ^^^ ((1 + e) % 2 ^ IntKind.u8.bits).toNat : Nat) : Int) = (c.toNat : Int) := by simpa using hxor
      have hlen3 : List.take Y.size (u8s (Y.data.toList.set k c)) = u8s (Y.data.toList.set k c) := List.take_of_length_le (by unfold u8s; rw [List.length_map, List.length_set]; exact Nat.le_refl _)
      have hg := u8_at Y.data.toList k d hd'
      have hg2 : ∀ h, (u8s Y.data.toList)[k]'h = AV.v (.int .u8 (d.toNat : Int)) := fun h => (List.getElem?_eq_some_iff.1 hg).2
      have hYe : ¬ Y = ByteArray.empty := fun h => by rw [h] at hY1; exact absurd hY1 (by decide)
      have hset := u8s_set Y.data.toList k c
      have hbs := bytes_u8s (Y.data.toList.set k c)
      have hlen : (u8s Y.data.toList).length = Y.size := by unfold u8s; rw [List.length_map]; rfl
      have hlen2 : (u8s (Y.data.toList.set k c)).length = Y.size := by unfold u8s; rw [List.length_map, List.length_set]; rfl
      have hv2 := verify_i ⟨(Y.data.toList.set k c).toArray⟩ (by show ((Y.data.toList.set k c).toArray).size ≤ _; rw [List.size_toArray, List.length_set]; show Y.size ≤ _; omega)
      have hBc : B ⟨(Y.data.toList.set k c).toArray⟩ = (B Y).set k c := rfl
      have hne : ¬ (seal_ (upto 35 ((B Y).set k c)) = (B Y).set k c ∧ (⟨(Y.data.toList.set k c).toArray⟩ : ByteArray).size ≤ 4000) := by
        intro hh
        rw [hYB] at hh hd
        exact detect hs.1 hd hc (notin_upto 35 _) hh.1
      rw [hBc, if_neg hne] at hv2
      have hki : (k : Int) < (Y.size : Int) := by omega
      have hYne : ¬ (Y.size : Int) = 0 := by omega
      have hYi : (Y.size : Int) ≤ 140737488355328 := by omega
      have hYn : Y.size ≤ 140737488355328 := by omega
      have hL : Y.data.toList.length = Y.size := rfl
      generalize hZ : Y.data.toList.set k c = Z at *
      cases fb with
      | true =>
        obtain ⟨rfl, rfl⟩ := hbk rfl
        simp -implicitDefEqProofs [L3, hb, eF, eP, eA, f1, f2, p1, p2, a1, a2, eB, hv, e9, e10, hk, he, hw1, hw2, hki, hkY, hYne, hYn, hYe, hg, hg2, hset, hbs, hlen, hlen2, hlen3, hxor2, hv2, b2sR, b2sL]
      | false =>
        simp -implicitDefEqProofs [L3, hb, eF, eP, eA, f1, f2, p1, p2, a1, a2, eB, hv, e9, e10, hk, he, hw1, hw2, hki, hkY, hYne, hYn, hYe, hg, hg2, hset, hbs, hlen, hlen2, hlen3, hxor2, hv2, b2sR, b2sL]
    · have happ : app x = (⟨#[]⟩, false) := by unfold app; rw [if_neg hs]
      rw [happ] at a1 a2
      simp only [] at a1 a2
      cases fb with
      | true =>
        obtain ⟨rfl, rfl⟩ := hbk rfl
        simp -implicitDefEqProofs [L3, hb, eF, eP, eA, f1, f2, p1, p2, a1, a2, eB]
      | false =>
        simp -implicitDefEqProofs [L3, hb, eF, eP, eA, f1, f2, p1, p2, a1, a2, eB]
end Go.Proofs.YtpoifmkgdfjhbaaDoor.Ev
