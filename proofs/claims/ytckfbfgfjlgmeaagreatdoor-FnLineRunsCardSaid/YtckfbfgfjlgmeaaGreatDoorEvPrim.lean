/- What functions of Go's library answer, as givens of the evaluator; out of the shelf's contracts. -/
import Derived.Test.YtckfbfgfjlgmeaaGreatDoorShelf
import Derived.Test.YtckfbfgfjlgmeaaGreatDoorEvBD
import Derived.Shelf.Strings.SlTrimAscii
set_option linter.unusedVariables false
set_option linter.unusedSimpArgs false
set_option linter.constructorNameAsVariable false
namespace Go.Proofs.YtckfbfgfjlgmeaaGreatDoor.Ev
/-- What the library's contracts ask of its package variables. -/
structure GW (w : World) : Prop where
  maxlen : ∃ m, w.cell? ⟨0, 0, none⟩ = some (.int .i64 m)
def gw0 : Nat := 1
theorem gw_low : Low gw0 GW where
  keep w w' h hk _ _ := by
    refine ⟨?_⟩
    · obtain ⟨m, hm⟩ := h.maxlen
      exact ⟨m, (World.cell?_of_block (hk 0 (by decide))).trans hm⟩
theorem args_at {M : Nat → Prop} {ρ : Rho} {w : World} {a b : AV} {vs : Array Value} (h : Args M ρ w [a, b] vs) : ∃ x y, vs = #[x, y] ∧ VR M w ρ a x ∧ VR M w ρ b y := by
  obtain ⟨h1, h2⟩ := h
  obtain ⟨l⟩ := vs
  match l, h1, h2 with
  | [x, y], _, h2 => exact ⟨x, y, rfl, h2 0 _ _ rfl rfl, h2 1 _ _ rfl rfl⟩
theorem arg_at {M : Nat → Prop} {ρ : Rho} {w : World} {a : AV} {vs : Array Value} (h : Args M ρ w [a] vs) : ∃ x, vs = #[x] ∧ VR M w ρ a x := by
  obtain ⟨h1, h2⟩ := h
  obtain ⟨l⟩ := vs
  match l, h1, h2 with
  | [x], _, h2 => exact ⟨x, rfl, h2 0 _ _ rfl rfl⟩
def strsOf : List AV → Option (List ByteArray)
  | [] => some []
  | .v (.string s) :: r => (strsOf r).bind fun l => some (s :: l)
  | _ :: _ => none
@[simp] theorem strsOf_map : ∀ l : List ByteArray, strsOf (l.map st) = some l
  | [] => rfl
  | s :: r => by rw [List.map_cons, strsOf, strsOf_map r]; rfl
theorem strsOf_some : ∀ {xs : List AV} {l : List ByteArray}, strsOf xs = some l → xs = l.map st
  | [], l, h => by cases h; rfl
  | a :: r, l, h => by
    unfold strsOf at h
    split at h
    · rename_i h0; cases h0
    · rename_i s r' h0
      cases h0
      obtain ⟨l', h1, h2⟩ := bind_iff.1 h
      cases h2
      rw [strsOf_some h1]
      rfl
    · cases h
/-- A row of texts in memory. -/
theorem row_texts {M : Nat → Prop} {ρ : Rho} {w : World} {l : List ByteArray} {v : Value} (h : VR M w ρ (.lst 1 (l.map st)) v) : ∃ A cap, v = .slice A l.length cap ∧ l.length ≤ cap ∧ (l ≠ [] → ∃ bk o, A = some ⟨bk, o, none⟩ ∧ M bk ∧ ∀ (j : Nat) x, l[j]? = some x → w.cell? ⟨bk, o + j, none⟩ = some (.string x)) := by
  cases h with
  | @lst _ _ _ A cap U hc ha hk hm hr =>
    rw [List.length_map] at hc
    refine ⟨A, cap, by rw [List.length_map], hc, fun hne => ?_⟩
    obtain ⟨a, rfl, hs, hM⟩ := ha (by simpa using hne)
    obtain ⟨bk, o, sp⟩ := a
    cases hs
    refine ⟨bk, o, rfl, hM, fun j x hx => ?_⟩
    have hx' : (l.map st)[j]? = some (st x) := by rw [List.getElem?_map, hx]; rfl
    have h1 := hm _ rfl j (st x) 0 (st x) hx' rfl
    have h2 := hr j (st x) 0 (st x) hx' rfl
    rw [Nat.mul_one, Nat.add_zero] at h1
    rw [vr_v h2] at h1
    exact h1.1
def trimP : List AV → Hp → Option (AV × Hp)
  | [.v (.string s), .v (.string c)], H => if s.size ≤ 9223372036854775807 ∧ c.size < 4294967281 ∧ c.data.toList.all (fun b => decide (b.toNat < 128)) = true then some (st ⟨(Lib.trimS s.data.toList c.data.toList).toArray⟩, H) else none
  | _, _ => none
theorem ascii_all {l : List UInt8} (h : l.all (fun b => decide (b.toNat < 128)) = true) : ∀ (j : Nat) (b : UInt8), l[j]? = some b → b.toNat < 128 := by
  intro j b hb
  simpa using List.all_eq_true.1 h b (List.mem_of_getElem? hb)
theorem trim_ok (xs : List AV) (H : Hp) (res : AV) (H' : Hp) (h : trimP xs H = some (res, H')) : Callable Go.Proofs.Tryz.prog 77 ∧
    ∀ (base : Nat) (M : Nat → Prop) (ρ : Rho) (w : World) (vs : Array Value), GW w → gw0 ≤ base → base ≤ w.heap.size → HR base M ρ H w → Args M ρ w xs vs → Calls Go.Proofs.Tryz.prog 77 vs w (Ans base M ρ H w res H') := by
  refine ⟨⟨_, Go.Proofs.Tryz.func77, by kernel_rfl, by kernel_rfl⟩, fun base M ρ w vs _ _ _ hH hA => ?_⟩
  unfold trimP at h
  split at h
  · split at h
    · rename_i s c hc
      cases h
      rw [args_two hA]
      refine (Any.strings_Trim_laid Go.Proofs.Tryz.lays160 (by kernel_rfl) s c w hc.1 hc.2.1 (ascii_all hc.2.2)).mono ?_
      rintro e w' ⟨rfl, hb⟩
      exact below_ans hH hb .v
    · cases h
  · cases h
def splitL (s c : ByteArray) : List ByteArray := Lib.splitB c 0 (Lib.countB s c) s
def splitP : List AV → Hp → Option (AV × Hp)
  | [.v (.string s), .v (.string c)], H => if s.size < 4294967281 ∧ 1 ≤ c.size then some (.sl H.length 0 (splitL s c).length, H ++ [some ⟨9, 1, 1, false, (splitL s c).map st⟩]) else none
  | _, _ => none
theorem split_ok (xs : List AV) (H : Hp) (res : AV) (H' : Hp) (h : splitP xs H = some (res, H')) : Callable Go.Proofs.Tryz.prog 116 ∧
    ∀ (base : Nat) (M : Nat → Prop) (ρ : Rho) (w : World) (vs : Array Value), GW w → gw0 ≤ base → base ≤ w.heap.size → HR base M ρ H w → Args M ρ w xs vs → Calls Go.Proofs.Tryz.prog 116 vs w (Ans base M ρ H w res H') := by
  refine ⟨⟨_, Go.Proofs.Tryz.func116, by kernel_rfl, by kernel_rfl⟩, fun base M ρ w vs hG _ hB hH hA => ?_⟩
  unfold splitP at h
  split at h
  · split at h
    · rename_i s c hc
      cases h
      rw [args_two hA]
      obtain ⟨m, hm⟩ := hG.maxlen
      have hlen : (splitL s c).length = Lib.countB s c + 1 := Lib.splitB_all c hc.2 0 _ s rfl
      have hcnt := Lib.countB_le c hc.2 s.size s (Nat.le_refl _)
      refine (Go.Proofs.Tryz.strings_Split s c m w hc.1 hm hc.2).mono ?_
      rintro e w' ⟨rfl, hw⟩
      obtain ⟨p1, p2⟩ := HR.push (w' := w') (cur := ((splitL s c).map Value.string).toArray) (fr := (0, 0)) (b := ⟨9, 1, 1, false, (splitL s c).map st⟩) (cap := (splitL s c).length) hH hB (by rw [hw]; rfl) (by rw [hw]; rfl) (by rw [hw]; rfl) (by rw [hw]; rfl) (by simp) (by simp) rfl (.inl rfl) (by rw [hlen]; unfold maxLen; omega) (by simp) (fun i el hx => by
        rw [List.getElem?_map] at hx
        cases hq : (splitL s c)[i]? with
        | none => rw [hq] at hx; cases hx
        | some z => rw [hq] at hx; cases hx; rfl) (fun i el j cc hx hj => by
        rw [List.getElem?_map] at hx
        cases hq : (splitL s c)[i]? with
        | none => rw [hq] at hx; cases hx
        | some z =>
          rw [hq] at hx
          cases hx
          have hj0 : j = 0 := by have := (List.getElem?_eq_some_iff.1 hj).1; simp [AV.cells] at this; omega
          subst hj0
          cases hj
          refine ⟨.string z, ?_, rfl, .v⟩
          simp [hq])
      refine ⟨_, _, _, rfl, p1, p2, ?_⟩
      rw [← hlen]
      exact VR.sl (A := some ⟨w.heap.size, 0, none⟩) ⟨w.heap.size, (splitL s c).length, 1⟩ (by rw [hH.len]; simp) (Nat.zero_add _) (Nat.le_refl _) (.inr (by simp))
    · cases h
  · cases h
def joinB (l : List ByteArray) (c : ByteArray) : List UInt8 := Lib.join (l.map (·.data.toList)) c.data.toList
def joinQ (c : ByteArray) (H : Hp) : Option (List ByteArray) → Option (AV × Hp)
  | none => none
  | some l => if l.length ≤ 140737488355328 ∧ (joinB l c).length ≤ 140737488355328 then some (st ⟨(joinB l c).toArray⟩, H) else none
def joinP : List AV → Hp → Option (AV × Hp)
  | [.lst 1 xs, .v (.string c)], H => joinQ c H (strsOf xs)
  | [.v (.slice none 0 0), .v (.string c)], H => some (st ⟨#[]⟩, H)
  | _, _ => none
theorem join_ok (xs : List AV) (H : Hp) (res : AV) (H' : Hp) (h : joinP xs H = some (res, H')) : Callable Go.Proofs.Tryz.prog 113 ∧
    ∀ (base : Nat) (M : Nat → Prop) (ρ : Rho) (w : World) (vs : Array Value), GW w → gw0 ≤ base → base ≤ w.heap.size → HR base M ρ H w → Args M ρ w xs vs → Calls Go.Proofs.Tryz.prog 113 vs w (Ans base M ρ H w res H') := by
  refine ⟨⟨_, Go.Proofs.Tryz.func113, by kernel_rfl, by kernel_rfl⟩, fun base M ρ w vs _ _ _ hH hA => ?_⟩
  unfold joinP at h
  split at h
  · rename_i xs c
    cases hq : strsOf xs with
    | none => rw [hq] at h; cases h
    | some l =>
      rw [hq] at h
      obtain rfl := strsOf_some hq
      unfold joinQ at h
      simp only at h
      split at h
      · rename_i hc
        cases h
        obtain ⟨x, y, rfl, v1, v2⟩ := args_at hA
        obtain rfl := vr_v v2
        obtain ⟨A, cap, rfl, hcap, hcell⟩ := row_texts v1
        by_cases hl : l = []
        · subst hl
          refine (Go.Proofs.Tryz.strings_Join_none A cap c w).mono ?_
          rintro e w' ⟨rfl, hw⟩
          rw [hw]
          exact below_ans hH ⟨rfl, rfl, rfl, Nat.le_refl _, fun _ _ => rfl⟩ .v
        · obtain ⟨bk, o, rfl, hM, hx⟩ := hcell hl
          refine (Go.Proofs.Tryz.strings_Join bk o cap l c w hx (hH.mlt _ hM) hc.1 hcap hc.2).mono ?_
          rintro e w' ⟨rfl, hb⟩
          exact below_ans hH hb .v
      · cases h
  · rename_i c
    cases h
    obtain ⟨x, y, rfl, v1, v2⟩ := args_at hA
    obtain rfl := vr_v v2
    obtain rfl := vr_v v1
    refine (Go.Proofs.Tryz.strings_Join_none none 0 c w).mono ?_
    rintro e w' ⟨rfl, hw⟩
    rw [hw]
    exact below_ans hH ⟨rfl, rfl, rfl, Nat.le_refl _, fun _ _ => rfl⟩ .v
  · cases h
def countP : List AV → Hp → Option (AV × Hp)
  | [.v (.string s), .v (.string c)], H => if c.size = 1 then some (i64 ((Lib.countByte s.data.toList (c.data.toList.headD 0) : Nat) : Int), H) else none
  | _, _ => none
theorem one_byteC (a : ByteArray) (h : a.size = 1) : ∃ c, a = ⟨#[c]⟩ := by
  obtain ⟨⟨l⟩⟩ := a
  match l, h with
  | [c], _ => exact ⟨c, rfl⟩
theorem count_ok (xs : List AV) (H : Hp) (res : AV) (H' : Hp) (h : countP xs H = some (res, H')) : Callable Go.Proofs.Tryz.prog 86 ∧
    ∀ (base : Nat) (M : Nat → Prop) (ρ : Rho) (w : World) (vs : Array Value), GW w → gw0 ≤ base → base ≤ w.heap.size → HR base M ρ H w → Args M ρ w xs vs → Calls Go.Proofs.Tryz.prog 86 vs w (Ans base M ρ H w res H') := by
  refine ⟨⟨_, Go.Proofs.Tryz.func86, by kernel_rfl, by kernel_rfl⟩, fun base M ρ w vs hG _ _ hH hA => ?_⟩
  unfold countP at h
  split at h
  · split at h
    · rename_i s c hc
      cases h
      rw [args_two hA]
      obtain ⟨c, rfl⟩ := one_byteC c hc
      refine (Go.Proofs.Tryz.strings_Count_one s c w).mono ?_
      rintro e w' ⟨rfl, rfl⟩
      exact below_ans hH ⟨rfl, rfl, rfl, Nat.le_refl _, fun _ _ => rfl⟩ .v
    · cases h
  · cases h
def repeatP : List AV → Hp → Option (AV × Hp)
  | [.v (.string s), .v (.int .i64 c)], H => if 0 ≤ c ∧ c ≤ 100000 ∧ s.size ≤ 1000000 then some (st ⟨(Lib.repeatL s.data.toList c.toNat).toArray⟩, H) else none
  | _, _ => none
theorem repeat_ok (xs : List AV) (H : Hp) (res : AV) (H' : Hp) (h : repeatP xs H = some (res, H')) : Callable Go.Proofs.Tryz.prog 92 ∧
    ∀ (base : Nat) (M : Nat → Prop) (ρ : Rho) (w : World) (vs : Array Value), GW w → gw0 ≤ base → base ≤ w.heap.size → HR base M ρ H w → Args M ρ w xs vs → Calls Go.Proofs.Tryz.prog 92 vs w (Ans base M ρ H w res H') := by
  refine ⟨⟨_, Go.Proofs.Tryz.func92, by kernel_rfl, by kernel_rfl⟩, fun base M ρ w vs hG _ _ hH hA => ?_⟩
  unfold repeatP at h
  split at h
  · split at h
    · rename_i s c hc
      cases h
      rw [args_two hA]
      obtain ⟨h0, h1, h2⟩ := hc
      obtain ⟨k, rfl⟩ : ∃ k : Nat, c = k := ⟨c.toNat, by omega⟩
      have hk : k ≤ 100000 := by omega
      have hm : s.size * k ≤ 1000000 * 100000 := Nat.mul_le_mul h2 hk
      rw [Int.toNat_natCast]
      refine (Go.Proofs.Tryz.strings_Repeat s k w (by omega) (by omega)).mono ?_
      rintro e w' ⟨rfl, hb⟩
      exact below_ans hH hb .v
    · cases h
  · cases h
end Go.Proofs.YtckfbfgfjlgmeaaGreatDoor.Ev
