/- What functions of Go's library answer, as givens of the evaluator; out of the shelf's contracts. -/
import Derived.Test.YtgecnbafmlecjaaGreatDoorShelf
import Derived.Test.YtgecnbafmlecjaaGreatDoorEvBD
import Derived.Shelf.Strings.SlTrimAscii
import Derived.Test.YtgecnbafmlecjaaGreatDoorEvRepI
set_option linter.unusedVariables false
set_option linter.unusedSimpArgs false
set_option linter.constructorNameAsVariable false
namespace Go.Proofs.YtgecnbafmlecjaaGreatDoor.Ev
/-- What the library's contracts ask of its package variables. -/
structure GW (w : World) : Prop where
  spc : Lib.TabIs Go.Proofs.Tryz.prog w "strings.asciiSpace" .u8 Lib.asciiSpaceTab
def gw0 : Nat := 1
theorem gw_low : Low gw0 GW where
  keep w w' h hk _ _ := by
    refine ⟨?_⟩
    · have ht := h.spc
      unfold Lib.TabIs World.var? at ht ⊢
      rw [show Go.Proofs.Tryz.prog.globalNamed "strings.asciiSpace" = some 0 by kernel_rfl] at ht ⊢
      simp only [Option.bind_some] at ht ⊢
      rw [hk 0 (by decide)]
      exact ht
theorem args_at {M : Nat → Prop} {ρ : Rho} {w : World} {a b : AV} {vs : Array Value} (h : Args M ρ w [a, b] vs) : ∃ x y, vs = #[x, y] ∧ VR M w ρ a x ∧ VR M w ρ b y := by
  obtain ⟨h1, h2⟩ := h
  obtain ⟨l⟩ := vs
  match l, h1, h2 with
  | [x, y], _, h2 => exact ⟨x, y, rfl, h2 0 _ _ rfl rfl, h2 1 _ _ rfl rfl⟩
theorem arg_at {M : Nat → Prop} {ρ : Rho} {w : World} {a : AV} {vs : Array Value} (h : Args M ρ w [a] vs) : ∃ x, vs = #[x] ∧ VR M w ρ a x := by
  obtain ⟨h1, h2⟩ := h
  obtain ⟨l⟩ := vs
  match l, h1, h2 with
  | [x], _, h2 => exact ⟨x, rfl, h2 0 _ _ rfl rfl⟩
def strsOf : List AV → Option (List ByteArray)
  | [] => some []
  | .v (.string s) :: r => (strsOf r).bind fun l => some (s :: l)
  | _ :: _ => none
@[simp] theorem strsOf_map : ∀ l : List ByteArray, strsOf (l.map st) = some l
  | [] => rfl
  | s :: r => by rw [List.map_cons, strsOf, strsOf_map r]; rfl
theorem strsOf_some : ∀ {xs : List AV} {l : List ByteArray}, strsOf xs = some l → xs = l.map st
  | [], l, h => by cases h; rfl
  | a :: r, l, h => by
    unfold strsOf at h
    split at h
    · rename_i h0; cases h0
    · rename_i s r' h0
      cases h0
      obtain ⟨l', h1, h2⟩ := bind_iff.1 h
      cases h2
      rw [strsOf_some h1]
      rfl
    · cases h
/-- A row of texts in memory. -/
theorem row_texts {M : Nat → Prop} {ρ : Rho} {w : World} {l : List ByteArray} {v : Value} (h : VR M w ρ (.lst 1 (l.map st)) v) : ∃ A cap, v = .slice A l.length cap ∧ l.length ≤ cap ∧ (l ≠ [] → ∃ bk o, A = some ⟨bk, o, none⟩ ∧ M bk ∧ ∀ (j : Nat) x, l[j]? = some x → w.cell? ⟨bk, o + j, none⟩ = some (.string x)) := by
  cases h with
  | @lst _ _ _ A cap U hc ha hk hm hr =>
    rw [List.length_map] at hc
    refine ⟨A, cap, by rw [List.length_map], hc, fun hne => ?_⟩
    obtain ⟨a, rfl, hs, hM⟩ := ha (by simpa using hne)
    obtain ⟨bk, o, sp⟩ := a
    cases hs
    refine ⟨bk, o, rfl, hM, fun j x hx => ?_⟩
    have hx' : (l.map st)[j]? = some (st x) := by rw [List.getElem?_map, hx]; rfl
    have h1 := hm _ rfl j (st x) 0 (st x) hx' rfl
    have h2 := hr j (st x) 0 (st x) hx' rfl
    rw [Nat.mul_one, Nat.add_zero] at h1
    rw [vr_v h2] at h1
    exact h1.1
def trimP : List AV → Hp → Option (AV × Hp)
  | [.v (.string s), .v (.string c)], H => if s.size ≤ 9223372036854775807 ∧ c.size < 4294967281 ∧ c.data.toList.all (fun b => decide (b.toNat < 128)) = true then some (st ⟨(Lib.trimS s.data.toList c.data.toList).toArray⟩, H) else none
  | _, _ => none
theorem ascii_all {l : List UInt8} (h : l.all (fun b => decide (b.toNat < 128)) = true) : ∀ (j : Nat) (b : UInt8), l[j]? = some b → b.toNat < 128 := by
  intro j b hb
  simpa using List.all_eq_true.1 h b (List.mem_of_getElem? hb)
theorem trim_ok (xs : List AV) (H : Hp) (res : AV) (H' : Hp) (h : trimP xs H = some (res, H')) : Callable Go.Proofs.Tryz.prog 83 ∧
    ∀ (base : Nat) (M : Nat → Prop) (ρ : Rho) (w : World) (vs : Array Value), GW w → gw0 ≤ base → base ≤ w.heap.size → HR base M ρ H w → Args M ρ w xs vs → Calls Go.Proofs.Tryz.prog 83 vs w (Ans base M ρ H w res H') := by
  refine ⟨⟨_, Go.Proofs.Tryz.func83, by kernel_rfl, by kernel_rfl⟩, fun base M ρ w vs _ _ _ hH hA => ?_⟩
  unfold trimP at h
  split at h
  · split at h
    · rename_i s c hc
      cases h
      rw [args_two hA]
      refine (Any.strings_Trim_laid Go.Proofs.Tryz.lays160 (by kernel_rfl) s c w hc.1 hc.2.1 (ascii_all hc.2.2)).mono ?_
      rintro e w' ⟨rfl, hb⟩
      exact below_ans hH hb .v
    · cases h
  · cases h
def joinB (l : List ByteArray) (c : ByteArray) : List UInt8 := Lib.join (l.map (·.data.toList)) c.data.toList
def joinQ (c : ByteArray) (H : Hp) : Option (List ByteArray) → Option (AV × Hp)
  | none => none
  | some l => if l.length ≤ 140737488355328 ∧ (joinB l c).length ≤ 140737488355328 then some (st ⟨(joinB l c).toArray⟩, H) else none
def joinP : List AV → Hp → Option (AV × Hp)
  | [.lst 1 xs, .v (.string c)], H => joinQ c H (strsOf xs)
  | [.v (.slice none 0 0), .v (.string c)], H => some (st ⟨#[]⟩, H)
  | _, _ => none
theorem join_ok (xs : List AV) (H : Hp) (res : AV) (H' : Hp) (h : joinP xs H = some (res, H')) : Callable Go.Proofs.Tryz.prog 63 ∧
    ∀ (base : Nat) (M : Nat → Prop) (ρ : Rho) (w : World) (vs : Array Value), GW w → gw0 ≤ base → base ≤ w.heap.size → HR base M ρ H w → Args M ρ w xs vs → Calls Go.Proofs.Tryz.prog 63 vs w (Ans base M ρ H w res H') := by
  refine ⟨⟨_, Go.Proofs.Tryz.func63, by kernel_rfl, by kernel_rfl⟩, fun base M ρ w vs _ _ _ hH hA => ?_⟩
  unfold joinP at h
  split at h
  · rename_i xs c
    cases hq : strsOf xs with
    | none => rw [hq] at h; cases h
    | some l =>
      rw [hq] at h
      obtain rfl := strsOf_some hq
      unfold joinQ at h
      simp only at h
      split at h
      · rename_i hc
        cases h
        obtain ⟨x, y, rfl, v1, v2⟩ := args_at hA
        obtain rfl := vr_v v2
        obtain ⟨A, cap, rfl, hcap, hcell⟩ := row_texts v1
        by_cases hl : l = []
        · subst hl
          refine (Go.Proofs.Tryz.strings_Join_none A cap c w).mono ?_
          rintro e w' ⟨rfl, hw⟩
          rw [hw]
          exact below_ans hH ⟨rfl, rfl, rfl, Nat.le_refl _, fun _ _ => rfl⟩ .v
        · obtain ⟨bk, o, rfl, hM, hx⟩ := hcell hl
          refine (Go.Proofs.Tryz.strings_Join bk o cap l c w hx (hH.mlt _ hM) hc.1 hcap hc.2).mono ?_
          rintro e w' ⟨rfl, hb⟩
          exact below_ans hH hb .v
      · cases h
  · rename_i c
    cases h
    obtain ⟨x, y, rfl, v1, v2⟩ := args_at hA
    obtain rfl := vr_v v2
    obtain rfl := vr_v v1
    refine (Go.Proofs.Tryz.strings_Join_none none 0 c w).mono ?_
    rintro e w' ⟨rfl, hw⟩
    rw [hw]
    exact below_ans hH ⟨rfl, rfl, rfl, Nat.le_refl _, fun _ _ => rfl⟩ .v
  · cases h
def fieldsL (s : ByteArray) : List ByteArray := (Lib.fields s.data.toList).map fun l => ⟨l.toArray⟩
theorem cntF_le : ∀ (l : List UInt8) (b : Bool), Lib.cntF b l ≤ l.length
  | [], _ => Nat.le_refl _
  | x :: l, b => by
    have := cntF_le l (Lib.isSp x)
    rw [Lib.cntF, List.length_cons]
    split <;> omega
theorem fieldsL_len (s : ByteArray) : (fieldsL s).length ≤ s.size + 1 := by
  unfold fieldsL Lib.fields
  rw [List.length_map, Lib.fieldsGo_length]
  have := cntF_le s.data.toList true
  have hl : s.data.toList.length = s.size := by simp
  rw [show (if (([] : List UInt8).isEmpty) = true then 0 else 1) = 0 from rfl, show ([] : List UInt8).isEmpty = true from rfl]
  omega
def fieldsP : List AV → Hp → Option (AV × Hp)
  | [.v (.string s)], H => if s.size < 4294967281 ∧ s.data.toList.all (fun b => decide (b.toNat < 128)) = true then some (.sl H.length 0 (fieldsL s).length, H ++ [some ⟨9, 1, 1, false, (fieldsL s).map st⟩]) else none
  | _, _ => none
theorem fields_ok (xs : List AV) (H : Hp) (res : AV) (H' : Hp) (h : fieldsP xs H = some (res, H')) : Callable Go.Proofs.Tryz.prog 62 ∧
    ∀ (base : Nat) (M : Nat → Prop) (ρ : Rho) (w : World) (vs : Array Value), GW w → gw0 ≤ base → base ≤ w.heap.size → HR base M ρ H w → Args M ρ w xs vs → Calls Go.Proofs.Tryz.prog 62 vs w (Ans base M ρ H w res H') := by
  refine ⟨⟨_, Go.Proofs.Tryz.func62, by kernel_rfl, by kernel_rfl⟩, fun base M ρ w vs hG _ hB hH hA => ?_⟩
  unfold fieldsP at h
  split at h
  · split at h
    · rename_i s hc
      cases h
      obtain ⟨x, rfl, v1⟩ := arg_at hA
      obtain rfl := vr_v v1
      have hlen : (fieldsL s).length = (Lib.fields s.data.toList).length := List.length_map _
      have hcnt : (fieldsL s).length ≤ s.size + 1 := fieldsL_len s
      refine (Go.Proofs.Tryz.strings_Fields_laid s w hc.1 (fun j b hb => by
        have := List.all_eq_true.1 hc.2 b (List.mem_of_getElem? hb)
        simpa using this) hG.spc).mono ?_
      rintro e w' ⟨rfl, hw⟩
      rw [show ((Lib.fields s.data.toList).map fun l => Value.string ⟨l.toArray⟩) = (fieldsL s).map Value.string by unfold fieldsL; rw [List.map_map]; rfl] at hw
      obtain ⟨p1, p2⟩ := HR.push (w' := w') (cur := ((fieldsL s).map Value.string).toArray) (fr := (0, 0)) (b := ⟨9, 1, 1, false, (fieldsL s).map st⟩) (cap := (fieldsL s).length) hH hB (by rw [hw]; rfl) (by rw [hw]; rfl) (by rw [hw]; rfl) (by rw [hw]; rfl) (by simp) (by simp) rfl (.inl rfl) (by unfold maxLen; omega) (by simp) (fun i el hx => by
        rw [List.getElem?_map] at hx
        cases hq : (fieldsL s)[i]? with
        | none => rw [hq] at hx; cases hx
        | some z => rw [hq] at hx; cases hx; rfl) (fun i el j cc hx hj => by
        rw [List.getElem?_map] at hx
        cases hq : (fieldsL s)[i]? with
        | none => rw [hq] at hx; cases hx
        | some z =>
          rw [hq] at hx
          cases hx
          have hj0 : j = 0 := by have := (List.getElem?_eq_some_iff.1 hj).1; simp [AV.cells] at this; omega
          subst hj0
          cases hj
          refine ⟨.string z, ?_, rfl, .v⟩
          simp [hq])
      refine ⟨_, _, _, rfl, p1, p2, ?_⟩
      rw [← hlen]
      exact VR.sl (A := some ⟨w.heap.size, 0, none⟩) ⟨w.heap.size, (fieldsL s).length, 1⟩ (by rw [hH.len]; simp) (Nat.zero_add _) (Nat.le_refl _) (.inr (by simp))
    · cases h
  · cases h
def bareP : List AV → Hp → Option (AV × Hp)
  | [.v (.string s)], H => if s.size ≤ 140737488355328 then some (st ⟨(kept s s.size).toArray⟩, H) else none
  | _, _ => none
theorem bare_ok (xs : List AV) (H : Hp) (res : AV) (H' : Hp) (h : bareP xs H = some (res, H')) : Callable Go.Proofs.Tryz.prog 36 ∧
    ∀ (base : Nat) (M : Nat → Prop) (ρ : Rho) (w : World) (vs : Array Value), GW w → gw0 ≤ base → base ≤ w.heap.size → HR base M ρ H w → Args M ρ w xs vs → Calls Go.Proofs.Tryz.prog 36 vs w (Ans base M ρ H w res H') := by
  refine ⟨⟨_, Go.Proofs.Tryz.func36, by kernel_rfl, by kernel_rfl⟩, fun base M ρ w vs _ _ _ hH hA => ?_⟩
  unfold bareP at h
  split at h
  · split at h
    · rename_i s hs
      cases h
      obtain ⟨x, rfl, v1⟩ := arg_at hA
      obtain rfl := vr_v v1
      refine (bare_walk s hs w).mono ?_
      rintro e w' ⟨rfl, hb⟩
      exact below_ans hH hb .v
    · cases h
  · cases h
end Go.Proofs.YtgecnbafmlecjaaGreatDoor.Ev
