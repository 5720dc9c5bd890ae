/- RatchetKept: part 37 of 39 of its proof. -/
import Derived.Test.YtmkefajojokkfaaK35
import Derived.Test.YtmkefajojokkfaaK34
import Derived.Test.YtmkefajojokkfaaChecked
import Derived.WalkKit
import Derived.Deep.LoopGhost
import Derived.Deep.RegionLaw
import Derived.Lib.Walk
import Derived.Lib.SliceRun
import Derived.Shelf.RegionOpenPlain
import Derived.Deep.MidRow
set_option linter.unusedVariables false
set_option linter.unusedSimpArgs false
/- ratchet: Open, whole. -/
namespace Go.Am
set_option linter.unusedSimpArgs false
set_option maxRecDepth 100000
def passX (C : OCry) (r : Rat) (ss : List Sk) (to : Int) : Rat × List Sk :=
  bif (r.recv == hz32) && true then (r, ss) else bif decide (r.got ≥ to) then (r, ss) else (passR C.stA (to - r.got).toNat r, ss ++ passS C.stA C.stB (to - r.got).toNat r)
def openL (C : OCry) (r : Rat) (ss : List Sk) (g : Msg) : Int ⊕ (Rat × List Sk × ByteArray) :=
  bif !(C.ok (C.stB r.recv) g) then .inl 180 else bif checkI (lastR C r) ss != 0 then .inl 180 else .inr (lastR C r, ss, C.txt (C.stB r.recv) g)
def openM (C : OCry) (r : Rat) (ss : List Sk) (g : Msg) : Int ⊕ (Rat × List Sk × ByteArray) := openL C (passX C r ss g.num).1 (passX C r ss g.num).2 g
def openQ (C : OCry) (r : Rat) (ss : List Sk) (g : Msg) (fr : List Int) : Int ⊕ (Rat × List Sk × ByteArray) :=
  bif decide (overI r ss.length g.key g.prev g.num > 8) then .inl 271 else
    bif !((g.key == r.peer) && true) then openM C (turnR C (passX C r ss g.prev).1 g.key fr) (passX C r ss g.prev).2 g else openM C r ss g
def openF (C : OCry) (r : Rat) (ss : List Sk) (g : Msg) (k : Nat) : Int ⊕ (Rat × List Sk × ByteArray) :=
  bif !(C.ok (ss.getD k zeroSk).sec g) then .inl 180 else .inr (r, ss.eraseIdx k, C.txt (ss.getD k zeroSk).sec g)
/-- What Open answers. -/
def openP (C : OCry) (r : Rat) (ss : List Sk) (g : Msg) (fr : List Int) : Int ⊕ (Rat × List Sk × ByteArray) :=
  bif checkI r ss != 0 then .inl 270 else bif decide (findI g.key g.num ss 0 ≥ 0) then openF C r ss g (findI g.key g.num ss 0).toNat else
    bif C.low g.key then .inl 130 else bif (g.key == r.peer) && true then (bif (r.recv == hz32) && true then .inl 272 else bif decide (g.num < r.got) then .inl 272 else openQ C r ss g fr) else openQ C r ss g fr
def opRes : Int ⊕ (Rat × List Sk × ByteArray) → Option Res
  | .inl e => oErr e
  | .inr p => oOk p.1 (p.2.1.map skR) p.2.2
theorem wSR_rows {ss : List Sk} (h : ss.length ≤ 1152921504606846976) (k : List Sk → Option Res) : wSR (ss.map skR) k = k ss := by
  rw [wSR, skAll_rows, Option.bind_some, if_pos h]
theorem cutR_rows (ss : List Sk) : cutR ss.length (ss.map skR) = ss.map skR := by rw [cutR, List.drop_zero, List.take_of_length_le (by simp)]
theorem findI_cases (ks : List Int) (n : Int) : ∀ (ss : List Sk) (i : Nat), findI ks n ss i = -1 ∨ ∃ j, j < ss.length ∧ findI ks n ss i = ((i + j : Nat) : Int)
  | [], _ => .inl rfl
  | s :: r, i => by
    simp only [findI]
    cases (s.key == ks) && (s.num == n)
    · simp only [cond_false]
      rcases findI_cases ks n r (i + 1) with h | ⟨j, hj, h⟩
      · exact .inl h
      · exact .inr ⟨j + 1, by simpa using hj, by rw [h]; congr 1; omega⟩
    · exact .inr ⟨0, by simp, rfl⟩
/-- Enough room for what is passed over. -/
def passOk (r : Rat) (n : Nat) (to : Int) : Prop := ((r.recv == hz32) && true) = false → decide (r.got ≥ to) = false → n + (to - r.got).toNat ≤ 1000 ∧ 0 ≤ r.got ∧ to < 4294967296
theorem psG_eq (C : OCry) {r : Rat} {ss : List Sk} {to : Int} (h : passOk r ss.length to) (F : Rat → List Sk → Option Res) {X : Option Res} {Y : List Sk → Option Res} (hX : X = F r ss) (hY : Y ss = F (passR C.stA (to - r.got).toNat r) (ss ++ passS C.stA C.stB (to - r.got).toNat r)) :
    psG ss.length (ss.map skR) r to X Y = F (passX C r ss to).1 (passX C r ss to).2 := by
  rw [psG, skAll_rows, Option.bind_some, if_pos ⟨by decide, rfl, rfl⟩, hX, hY]
  unfold passX
  cases hz : (r.recv == hz32) && true
  · simp only [cond_false]
    cases hd : decide (r.got ≥ to)
    · simp only [cond_false]
      rw [if_pos (h hz hd)]
    · rfl
  · rfl
theorem passX_len (C : OCry) {r : Rat} {ss : List Sk} {to : Int} (h : passOk r ss.length to) (hl : ss.length ≤ 1000) : (passX C r ss to).2.length ≤ 1000 := by
  unfold passX
  cases hz : (r.recv == hz32) && true
  · simp only [cond_false]
    cases hd : decide (r.got ≥ to)
    · simp only [cond_false, List.length_append, passS_len]
      exact (h hz hd).1
    · exact hl
  · exact hl
theorem oEnd_eq : oEnd = .seq (oK []) oI oJ := rfl
theorem oLast_eq : oLast = .seq (oK []) (.seq none oH1 (.cond (.t 115) oDiff .skip)) oEnd := rfl
theorem oDiff_eq : oDiff = .seq (oK []) oHp oHr := rfl
section
variable (C : OCry) (nid : Nat) (m0 : Nat) (xs0 : List (List AV)) (g : Msg) (fr : List Int)
theorem open_last (r : Rat) (ss : List Sk) (hl : ss.length ≤ 1000) : ev (OpEV C) oJ ⟨oT [], oHeap r ss.length (ss.map skR) g fr m0 xs0⟩ (oFin nid) = opRes (openL C r ss g) := by
  refine (o_last C nid r ss.length m0 _ xs0 g fr).trans ?_
  rw [cutR_rows, wSR_rows (by omega)]
  unfold openL
  cases C.ok (C.stB r.recv) g
  · rfl
  · simp only [Bool.not_true, cond_false]
    cases checkI (lastR C r) ss != 0 <;> rfl
theorem open_end (r : Rat) (ss : List Sk) (hl : ss.length ≤ 1000) (hp : passOk r ss.length g.num) : ev (OpEV C) oEnd ⟨oT [], oHeap r ss.length (ss.map skR) g fr m0 xs0⟩ (oFin nid) = opRes (openM C r ss g) := by
  rw [oEnd_eq, o_pass2 C oJ (oFin nid) r ss.length m0 (ss.map skR) xs0 g fr]
  rw [psG_eq C hp (fun r ss => ev (OpEV C) oJ ⟨oT [], oHeap r ss.length (ss.map skR) g fr m0 xs0⟩ (oFin nid)) rfl (by simp only [List.length_append, passS_len])]
  exact open_last C nid m0 xs0 g fr _ _ (passX_len C hp hl)
theorem open_turn (r : Rat) (ss : List Sk) (hl : ss.length ≤ 1000) (h1 : ((g.key == r.peer) && true) = false → passOk r ss.length g.prev ∧ (passX C r ss g.prev).2.length + g.num.toNat ≤ 1000 ∧ g.num < 4294967296) (h2 : ((g.key == r.peer) && true) = true → passOk r ss.length g.num) :
    ev (OpEV C) oLast ⟨oT [], oHeap r ss.length (ss.map skR) g fr m0 xs0⟩ (oFin nid) =
    opRes (bif !((g.key == r.peer) && true) then openM C (turnR C (passX C r ss g.prev).1 g.key fr) (passX C r ss g.prev).2 g else openM C r ss g) := by
  rw [oLast_eq, o_turn C oDiff oEnd nid r ss.length m0 (ss.map skR) xs0 g fr]
  cases hk : (g.key == r.peer) && true
  · simp only [Bool.not_false, cond_true]
    obtain ⟨hp, hq, hn⟩ := h1 hk
    rw [oDiff_eq, o_pass1 C oHr (kSeq (OpEV C) (oK []) oEnd (oFin nid)) r ss.length m0 (ss.map skR) xs0 g fr]
    rw [psG_eq C hp (fun r ss => ev (OpEV C) oHr ⟨oT [], oHeap r ss.length (ss.map skR) g fr m0 xs0⟩ (kSeq (OpEV C) (oK []) oEnd (oFin nid))) rfl (by simp only [List.length_append, passS_len])]
    rw [o_diff C oEnd nid]
    exact open_end C nid m0 xs0 g fr _ _ (passX_len C hp hl) fun _ _ => ⟨by
      show _ + (g.num - 0).toNat ≤ 1000
      omega, by show (0 : Int) ≤ 0; omega, hn⟩
  · simp only [Bool.not_true, cond_false]
    exact open_end C nid m0 xs0 g fr r ss hl (h2 hk)
end
end Go.Am
/- ratchet: Open, as an oracle. -/
namespace Go.Am
set_option linter.unusedSimpArgs false
set_option maxRecDepth 100000
theorem over_ne {r : Rat} {n : Nat} {hk : List Int} {hp hn : Int} (hn8 : n ≤ 8) (h0 : 0 ≤ r.got) (h1 : r.got < 4294967296) (p0 : 0 ≤ hp) (p1 : hp < 4294967296) (n0 : 0 ≤ hn) (n1 : hn < 4294967296) (hne : ((hk == r.peer) && true) = false) (h8 : decide (overI r n hk hp hn > 8) = false) :
    (((r.recv == hz32) && true) = false → decide (r.got ≥ hp) = false → n + (hp - r.got).toNat + hn.toNat ≤ 8) ∧ n + hn.toNat ≤ 8 := by
  have h8' := of_decide_eq_false h8
  unfold overI at h8'
  rw [hne] at h8'
  simp only [Bool.not_false, cond_true] at h8'
  have e1 : w63 hn = hn := w63_of n0 (by omega)
  rw [e1] at h8'
  cases hz : (r.recv == hz32) && true
  · rw [hz] at h8'
    simp only [Bool.not_false, cond_true] at h8'
    cases hd : decide (hp > r.got)
    · rw [hd] at h8'
      simp only [cond_false] at h8'
      rw [w63_of (by omega) (by omega)] at h8'
      have := of_decide_eq_false hd
      refine ⟨fun _ h => ?_, by omega⟩
      have := of_decide_eq_false h
      omega
    · rw [hd] at h8'
      simp only [cond_true] at h8'
      have hg := of_decide_eq_true hd
      rw [u32w_id (by omega) (by omega), w63_of (n := hp - r.got) (by omega) (by omega), w63_of (n := (n : Int) + (hp - r.got)) (by omega) (by omega), w63_of (by omega) (by omega)] at h8'
      exact ⟨fun _ _ => by omega, by omega⟩
  · rw [hz] at h8'
    simp only [Bool.not_true, cond_false] at h8'
    rw [w63_of (by omega) (by omega)] at h8'
    exact ⟨fun h => (by cases h), by omega⟩
theorem over_eq {r : Rat} {n : Nat} {hk : List Int} {hp hn : Int} (hn8 : n ≤ 8) (h0 : 0 ≤ r.got) (h1 : r.got < 4294967296) (n0 : 0 ≤ hn) (n1 : hn < 4294967296) (heq : ((hk == r.peer) && true) = true) (hge : decide (hn < r.got) = false) (h8 : decide (overI r n hk hp hn > 8) = false) :
    n + (hn - r.got).toNat ≤ 8 := by
  have h8' := of_decide_eq_false h8
  have hg := of_decide_eq_false hge
  unfold overI at h8'
  rw [heq] at h8'
  simp only [Bool.not_true, cond_false] at h8'
  rw [u32w_id (by omega) (by omega), w63_of (n := hn - r.got) (by omega) (by omega), w63_of (by omega) (by omega)] at h8'
  omega
theorem passX_eq_len (C : OCry) (r : Rat) (ss : List Sk) (to : Int) : (passX C r ss to).2.length = ss.length ∨ (((r.recv == hz32) && true) = false ∧ decide (r.got ≥ to) = false ∧ (passX C r ss to).2.length = ss.length + (to - r.got).toNat) := by
  unfold passX
  cases hz : (r.recv == hz32) && true
  · simp only [cond_false]
    cases hd : decide (r.got ≥ to)
    · right
      simp only [cond_false, List.length_append, passS_len]
      exact ⟨trivial, trivial, trivial⟩
    · left; rfl
  · left; rfl
theorem oRest_eq : oRest = .seq (oK []) oG oLast := rfl
theorem oRest0_eq : oRest0 = .seq (oK []) (.seq (oK [11]) oF1 oFind) oRest := rfl
theorem oFind_eq : oFind = .seq none oF2 (.cond (.t 40) oFound .skip) := rfl
theorem oFound_eq : oFound = .seq (oK [11, 12, 13]) oFd oFr := rfl
structure MsgOk (g : Msg) : Prop where
  prev0 : 0 ≤ g.prev
  prev1 : g.prev < 4294967296
  num0 : 0 ≤ g.num
  num1 : g.num < 4294967296
section
variable (C : OCry) (nid : Nat) (m0 : Nat) (xs0 : List (List AV)) (g : Msg) (fr : List Int)
theorem open_q (Z : Option Res) (r : Rat) (ss : List Sk) (hl : ss.length ≤ 8) (hg : MsgOk g) (h0 : 0 ≤ r.got) (h1 : r.got < 4294967296) (hge : ((g.key == r.peer) && true) = true → decide (g.num < r.got) = false)
    (hZ : (((g.key == r.peer) && true) = false → passOk r ss.length g.prev ∧ (passX C r ss g.prev).2.length + g.num.toNat ≤ 1000 ∧ g.num < 4294967296) → (((g.key == r.peer) && true) = true → passOk r ss.length g.num) →
      Z = opRes (bif !((g.key == r.peer) && true) then openM C (turnR C (passX C r ss g.prev).1 g.key fr) (passX C r ss g.prev).2 g else openM C r ss g)) :
    (wSR (cutR ss.length (ss.map skR)) fun s2 => bif decide (overI r s2.length g.key g.prev g.num > 8) then oErr 271 else Z) = opRes (openQ C r ss g fr) := by
  rw [cutR_rows, wSR_rows (by omega)]
  unfold openQ
  cases h8 : decide (overI r ss.length g.key g.prev g.num > 8)
  · simp only [cond_false]
    refine hZ (fun hne => ?_) fun heq => ?_
    · obtain ⟨q1, q2⟩ := over_ne hl h0 h1 hg.prev0 hg.prev1 hg.num0 hg.num1 hne h8
      refine ⟨fun e1 e2 => ⟨by have := q1 e1 e2; omega, h0, hg.prev1⟩, ?_, hg.num1⟩
      rcases passX_eq_len C r ss g.prev with e | ⟨e1, e2, e⟩
      · omega
      · have := q1 e1 e2; omega
    · have := over_eq hl h0 h1 hg.num0 hg.num1 heq (hge heq) h8
      exact fun _ _ => ⟨by omega, h0, hg.num1⟩
  · rfl
theorem sw_plain (Z : Option Res) (r : Rat) (ss : List Sk) (hZ : (((g.key == r.peer) && true) = true → decide (g.num < r.got) = false) → Z = opRes (openQ C r ss g fr)) :
    (bif C.low g.key then oErr 130 else bif (g.key == r.peer) && true then (bif (r.recv == hz32) && true then oErr 272 else bif decide (g.num < r.got) then oErr 272 else Z) else Z) =
    opRes (bif C.low g.key then .inl 130 else bif (g.key == r.peer) && true then (bif (r.recv == hz32) && true then .inl 272 else bif decide (g.num < r.got) then .inl 272 else openQ C r ss g fr) else openQ C r ss g fr) := by
  cases C.low g.key
  · simp only [cond_false]
    cases hk : (g.key == r.peer) && true
    · simp only [cond_false]
      exact hZ fun h => by rw [hk] at h; cases h
    · simp only [cond_true]
      cases (r.recv == hz32) && true
      · simp only [cond_false]
        cases hd : decide (g.num < r.got)
        · simp only [cond_false]
          exact hZ fun _ => hd
        · rfl
      · rfl
  · rfl
theorem open_switch (r : Rat) (ss : List Sk) (hl : ss.length ≤ 8) (hg : MsgOk g) (h0 : 0 ≤ r.got) (h1 : r.got < 4294967296) :
    ev (OpEV C) oRest ⟨oT [], oHeap r ss.length (ss.map skR) g fr m0 xs0⟩ (oFin nid) =
    opRes (bif C.low g.key then .inl 130 else bif (g.key == r.peer) && true then (bif (r.recv == hz32) && true then .inl 272 else bif decide (g.num < r.got) then .inl 272 else openQ C r ss g fr) else openQ C r ss g fr) := by
  rw [oRest_eq, o_switch C oLast nid r ss.length m0 (ss.map skR) xs0 g fr]
  generalize hz : ev (OpEV C) oLast ⟨oT [], oHeap r ss.length (ss.map skR) g fr m0 xs0⟩ (oFin nid) = Z
  have hZ := fun h1 h2 => hz.symm.trans (open_turn C nid m0 xs0 g fr r ss (by omega) h1 h2)
  clear hz
  exact sw_plain C g fr _ r ss fun hge => open_q C g fr Z r ss hl hg h0 h1 hge hZ
end
theorem checkI_len {r : Rat} {ss : List Sk} (h : checkI r ss = 0) : ss.length ≤ 8 := by
  unfold checkI at h
  cases hd : decide ((ss.length : Int) > 8)
  · have := of_decide_eq_false hd; omega
  · rw [hd] at h; cases h
theorem fd_plain (C : OCry) (g : Msg) (fr : List Int) (r : Rat) (ss : List Sk) (k : Nat) (s : Sk) (h : ss[k]? = some s) (hl : ss.length ≤ 1000) :
    (bif !(C.ok s.sec g) then oErr 180 else delG ss.length (k : Int) (some (.tuple [.agg (r.segs (.islR 65 (cutR (ss.length - 1) ((ss.map skR).eraseIdx (k : Int).toNat)))), .str (C.txt s.sec g), .int .i64 0], ⟨0, []⟩))) = opRes (openF C r ss g k) := by
  have hk : k < ss.length := (List.getElem?_eq_some_iff.1 h).1
  have e1 : ss.getD k zeroSk = s := by rw [List.getD_eq_getElem?_getD, h]; rfl
  unfold openF
  rw [e1]
  cases C.ok s.sec g
  · rfl
  · simp only [Bool.not_true, cond_false]
    rw [delG, if_pos ⟨rfl, by omega, by omega, w63_of (by omega) (by omega)⟩, Int.toNat_natCast]
    have e2 : (ss.map skR).eraseIdx k = (ss.eraseIdx k).map skR := by simp only [List.eraseIdx_eq_take_drop_succ, List.map_append, List.map_take, List.map_drop]
    have e3 : (ss.eraseIdx k).length = ss.length - 1 := List.length_eraseIdx_of_lt hk
    rw [e2, ← e3, cutR_rows]
    rfl
theorem open_find (C : OCry) (nid m0 : Nat) (xs0 : List (List AV)) (g : Msg) (fr : List Int) (r : Rat) (ss : List Sk) (hl : ss.length ≤ 8) (hg : MsgOk g) (h0 : 0 ≤ r.got) (h1 : r.got < 4294967296) :
    ev (OpEV C) oFind ⟨oT [(11, .int .i64 (findI g.key g.num ss 0))], oHeap r ss.length (ss.map skR) g fr m0 xs0⟩ (kSeq (OpEV C) (oK []) oRest (oFin nid)) =
    opRes (bif decide (findI g.key g.num ss 0 ≥ 0) then openF C r ss g (findI g.key g.num ss 0).toNat else
      bif C.low g.key then .inl 130 else bif (g.key == r.peer) && true then (bif (r.recv == hz32) && true then .inl 272 else bif decide (g.num < r.got) then .inl 272 else openQ C r ss g fr) else openQ C r ss g fr) := by
  rw [oFind_eq, o_find C oFound oRest nid r ss.length m0 (ss.map skR) xs0 g fr, open_switch C nid m0 xs0 g fr r ss hl hg h0 h1]
  rcases findI_cases g.key g.num ss 0 with e | ⟨k, hk, e⟩
  · rw [e]
    generalize ev (OpEV C) oFound _ _ = Z
    rfl
  · rw [Nat.zero_add] at e
    rw [e, decide_eq_true (by omega), cond_true, cond_true, oFound_eq]
    have hs := List.getElem?_eq_getElem hk
    have e2 := o_fd C oFr (kSeq (OpEV C) (oK []) oRest (oFin nid)) r m0 xs0 g fr (k := k) (by omega) hs
    unfold fdL fdR at e2
    rw [e2, o_found, Int.toNat_natCast]
    have e3 := fd_plain C g fr r ss k ss[k] hs (by omega)
    rw [Int.toNat_natCast] at e3
    exact e3
theorem open_run (C : OCry) (nid : Nat) (r : Rat) (ss : List Sk) (g : Msg) (fr : List Int) (hl : ss.length ≤ 1152921504606846976) (hg : MsgOk g) (h0 : 0 ≤ r.got) (h1 : r.got < 4294967296) :
    evFn (OpEV C) afOpen [.agg (r.segs (ckS ss.length)), .agg g.segs, key fr] ⟨16, [roC 0 (.rows 65 ss.length (ss.map skR))]⟩ (kOut none nid) = opRes (openP C r ss g fr) := by
  refine Eq.trans ?_ ((o_start C oFind oRest nid r ss.length ss.length (ss.map skR) g fr).trans ?_)
  · exact evFn_eq ..
  rw [cutR_rows, wSR_rows hl]
  unfold openP
  cases hc : checkI r ss != 0
  · have h8 : ss.length ≤ 8 := checkI_len (by simpa using hc)
    simp only [cond_false]
    rw [wSR_rows hl, if_pos (by omega), cutR_rows, wSR_rows hl]
    exact open_find C nid ss.length _ g fr r ss h8 hg h0 h1
  · rfl
/-! ## As an oracle -/
def openV1 (v : Int ⊕ (Rat × List Sk × ByteArray)) : AV := match v with
  | .inl e => .tuple [.agg (zRat.segs .nils), .str ⟨#[]⟩, .int .i64 e]
  | .inr p => .tuple [.agg (p.1.segs (.islR 65 (p.2.1.map skR))), .str p.2.2, .int .i64 0]
def openO (C : OCry) : OrcP := fun _ args h => match args with
  | [v, .agg [.ints .u8 32 a, .int .u32 p, .int .u32 n, .ints .u8 65 b], .agg [.ints .u8 32 fr]] => withRat v fun r l => withSks h l fun ss => some (openV1 (openP C r ss ⟨a, p, n, b⟩ fr), none)
  | _ => none
def oCry : OCry := ⟨kpA, kpB, tnA, tnB, lowB, okT, okB⟩
theorem open_pure {P : Program} {f : FuncId} {C : OCry} (F : Fn P f (OpEV C) afOpen) : PureOk P f (openO C) := by
  refine F.lit2 [.agg [.rows 65], .plain, .plain] none fun nid args hp r ha hr => ?_
  unfold openO at hr
  split at hr <;> try (cases hr; done)
  rename_i v a p n b fr
  obtain ⟨q, l, rfl, hr⟩ := withRat_eq hr
  obtain ⟨ss, hc, hl, hr⟩ := withSks_eq hr
  cases hr
  obtain ⟨h1, h2⟩ := ha.rat (List.mem_cons_self ..) hc
  have hok := ha.ok
  obtain ⟨_, ⟨_, hp1, hn1, _⟩, _⟩ := hok
  have hp2 := hp1 rfl
  have hn2 := hn1 rfl
  have hg := h1.gotR rfl
  simp only [IntKind.bits] at hp2 hn2 hg
  refine ⟨_, _, by simp only [viewArgs, check_view hc, Option.bind_some, Option.map_some, List.append_nil, avIds, avIds.avIdsL, List.isEmpty_nil, if_true]; rfl, by simp, ?_⟩
  refine (open_run C nid q ss ⟨a, p, n, b⟩ fr hl ⟨show (0 : Int) ≤ p by omega, show p < 4294967296 by omega, show (0 : Int) ≤ n by omega, show n < 4294967296 by omega⟩ (by omega) (by omega)).trans ?_
  unfold openV1
  cases openP C q ss ⟨a, p, n, b⟩ fr <;> rfl
theorem OpE_eq : OpEV oCry = OpE := by kernel_rfl
theorem open_pure1 {P : Program} {f : FuncId} (F : Fn P f OpE afOpen) : PureOk P f (openO oCry) := open_pure (C := oCry) (by rw [OpE_eq]; exact F)
/-! ## One shape for all answers -/
def Rat.hd (r : Rat) : List AV := [.ints .u8 32 r.root, .ints .u8 32 r.own, .ints .u8 32 r.peer, .ints .u8 32 r.send, .ints .u8 32 r.recv, .int .u32 r.sent, .int .u32 r.got, .int .u32 r.bef]
theorem CR_last {ι : Inj} {a : List AV} {b b' : AV} {vs : List Value} (h : CR ι (a ++ [b]) vs) (hb : ∀ x, SR ι b x → SR ι b' x) : CR ι (a ++ [b']) vs := by
  refine ⟨by rw [← h.1]; simp, fun i v hi => ?_⟩
  by_cases hl : i < a.length
  · rw [List.getElem?_append_left hl] at hi
    exact h.2 i v (by rw [List.getElem?_append_left hl]; exact hi)
  · rw [List.getElem?_append_right (by omega)] at hi
    have hi0 : i - a.length = 0 := by
      have := (List.getElem?_eq_some_iff.1 hi).1
      simpa using this
    rw [hi0] at hi
    simp only [List.getElem?_cons_zero, Option.some.injEq] at hi
    subst hi
    obtain ⟨x, hx, hs⟩ := h.2 i b (by rw [List.getElem?_append_right (by omega), hi0]; rfl)
    exact ⟨x, hx, hb x hs⟩
theorem cells_hd (r : Rat) {l : AV} (h : segC l = [l]) : cellsL (r.segs l) = cellsL r.hd ++ [l] := by
  have : r.segs l = r.hd ++ [l] := rfl
  rw [this, cellsL, List.flatMap_append]
  simp only [List.flatMap_cons, List.flatMap_nil, List.append_nil, h]
  rfl
/-- nil is a slice of no rows. -/
theorem nil_rows {ι : Inj} {r : Rat} {x : Value} (h : VA ι (.agg (r.segs .nils)) x) : VA ι (.agg (r.segs (.islR 65 []))) x := by
  obtain ⟨cs, e, wf, hc⟩ := h
  refine ⟨cs, e, fun s hs => ?_, ?_⟩
  · have hs' : s ∈ r.hd ++ [AV.islR 65 []] := hs
    rcases List.mem_append.1 hs' with h1 | h1
    · exact wf s (by show s ∈ r.hd ++ [AV.nils]; exact List.mem_append_left _ h1)
    · simp only [List.mem_singleton] at h1; subst h1; trivial
  · rw [cells_hd r (by rfl)] at hc ⊢
    exact CR_last hc fun x hx => ⟨none, 0, hx, by decide, by simp, Nat.le_refl _, .inl rfl⟩
theorem VAL.heads {ι : Inj} {a b : AV} {l : List AV} {vs : List Value} (h : VAL ι (a :: l) vs) (hb : ∀ x, VA ι a x → VA ι b x) : VAL ι (b :: l) vs := by
  refine ⟨by rw [← h.1]; rfl, fun i v hi => ?_⟩
  cases i with
  | zero =>
    simp only [List.getElem?_cons_zero, Option.some.injEq] at hi
    subst hi
    obtain ⟨x, hx, hs⟩ := h.2 0 a rfl
    exact ⟨x, hx, hb x hs⟩
  | succ i => exact h.2 (i + 1) v hi
theorem PureOk.weak {P : Program} {f : FuncId} {o o' : OrcP} (h : PureOk P f o) (hw : ∀ nid args hp v ob, o' nid args hp = some (v, ob) → ∃ v0, o nid args hp = some (v0, none) ∧ ob = none ∧ ∀ ι x, VR ι v0 x → VR ι v x) : PureOk P f o' := by
  intro nid args hp v ob ι w vs hk R hn ha
  obtain ⟨v0, h1, rfl, h3⟩ := hw nid args hp v ob hk
  refine (h nid args hp v0 none ι w vs h1 R hn ha).mono fun x w' hr => ?_
  obtain ⟨F, f1, f2, f3⟩ := hr.res
  exact ⟨hr.os, hr.tape, hr.output, hr.size, hr.frame, F, f1, f2, h3 _ x f3⟩
structure OpV where
  rat : Rat
  sks : List Sk
  txt : ByteArray
  err : Int
def opV : Int ⊕ (Rat × List Sk × ByteArray) → OpV
  | .inl e => ⟨zRat, [], ⟨#[]⟩, e⟩
  | .inr p => ⟨p.1, p.2.1, p.2.2, 0⟩
abbrev OVal := Rat → List Sk → Msg → List Int → OpV
/-- Open, with a function that is not looked into. -/
def openU (V : OVal) : OrcP := fun _ args h => match args with
  | [v, .agg [.ints .u8 32 a, .int .u32 p, .int .u32 n, .ints .u8 65 b], .agg [.ints .u8 32 fr]] => withRat v fun r l => withSks h l fun ss => some (.tuple [.agg ((V r ss ⟨a, p, n, b⟩ fr).rat.segs (.islR 65 ((V r ss ⟨a, p, n, b⟩ fr).sks.map skR))), .str (V r ss ⟨a, p, n, b⟩ fr).txt, .int .i64 (V r ss ⟨a, p, n, b⟩ fr).err], none)
  | _ => none
def openW (C : OCry) : OVal := fun r ss g fr => opV (openP C r ss g fr)
theorem openU_pure {P : Program} {f : FuncId} {C : OCry} (h : PureOk P f (openO C)) : PureOk P f (openU (openW C)) := by
  refine h.weak fun nid args hp v ob hk => ?_
  unfold openU at hk
  split at hk <;> try (cases hk; done)
  rename_i v a p n b fr
  obtain ⟨q, l, rfl, hk1⟩ := withRat_eq hk
  unfold withSks at hk1
  cases hc : contR 65 hp l with
  | none => rw [hc] at hk1; cases hk1
  | some xs =>
    rw [hc] at hk1
    simp only [Option.bind_some] at hk1
    cases hs : skAll xs with
    | none => rw [hs] at hk1; cases hk1
    | some ss =>
      rw [hs] at hk1
      simp only [Option.bind_some] at hk1
      split at hk1 <;> try (cases hk1; done)
      rename_i hl
      cases hk1
      refine ⟨openV1 (openP C q ss ⟨a, p, n, b⟩ fr), ?_, rfl, fun ι x hx => ?_⟩
      · show (withSks hp l fun ss => some (openV1 (openP C q ss ⟨a, p, n, b⟩ fr), none)) = _
        unfold withSks
        rw [hc]
        simp only [Option.bind_some, hs]
        rw [if_pos hl]
      · unfold openW
        cases ho : openP C q ss ⟨a, p, n, b⟩ fr with
        | inl e =>
          rw [ho] at hx
          obtain ⟨vs, rfl, hv⟩ := hx
          exact ⟨vs, rfl, hv.heads fun y hy => nil_rows hy⟩
        | inr p => rw [ho] at hx; exact hx
def openUC (V : OVal) : OrcF := fun args h κ => match args with
  | [v, .agg [.ints .u8 32 a, .int .u32 p, .int .u32 n, .ints .u8 65 b], .agg [.ints .u8 32 fr]] => withRat v fun r l => withSks h l fun ss => κ (.tuple [.agg ((V r ss ⟨a, p, n, b⟩ fr).rat.segs (.islR 65 ((V r ss ⟨a, p, n, b⟩ fr).sks.map skR))), .str (V r ss ⟨a, p, n, b⟩ fr).txt, .int .i64 (V r ss ⟨a, p, n, b⟩ fr).err]) h
  | _ => none
theorem openU_full {P : Program} {f : FuncId} {V : OVal} (h : PureOk P f (openU V)) : FullOk P f (openUC V) := by
  refine pure_full h fun args hp κ => ?_
  unfold openUC openU
  split
  · simp only [withRat_map, withSks_map, Option.bind_some, obH]
  · first
    | rfl
    | (rename_i hx
       split
       · exact (hx _ _ _ _ _ _ rfl).elim
       · rfl)
end Go.Am
/- ratchet: Seal. -/
namespace Go.Am
set_option linter.unusedSimpArgs false
set_option maxRecDepth 100000
def pubV (A : F1) : OrcP := fun _ args _ => match args with
  | [.agg [.ints .u8 32 xs]] => some (key (A xs), none)
  | _ => none
def nine : List Int := 9 :: List.replicate 31 0
def pubB (xs : List Int) : List Int := xI xs nine
theorem pub_run (X : List Int → List Int → List Int) (f : Nat → Int) : evFn (envAdd id_curve_X (.pure (keyO2 X)) G10) af_curve_Public [key (tab 32 f)] ⟨16, []⟩ kV = some (key (X (tab 32 f) nine), ⟨0, []⟩) := by kernel_rfl
theorem pub_pure {P : Program} {f : FuncId} (F : Fn P f X_curve_X af_curve_Public) : PureOk P f (pubV pubB) := by
  refine F.plain fun nid args hp r ha hr => ?_
  unfold pubV at hr
  split at hr
  · rename_i xs
    cases hr
    obtain ⟨⟨⟨hl, _⟩, _⟩, _⟩ := ha
    obtain ⟨k, rfl⟩ := tab_of hl
    exact ⟨rfl, rfl, rfl, pub_run xI k⟩
  · cases hr
structure SCry where
  pub : F1
  stA : F1
  stB : F1
  cip : F4
def SlE : Env := envAdd id_ratchet_Check (.full checkC) (envAdd id_slices_Clone_api_Skip (.full cloneRC) (envAdd id_curve_Public (.pure (pubV pubB)) (envAdd id_kdf_Step (.pure (kstepV kpA kpB)) (envAdd id_aead_Seal (.pure (aSealV sealB)) (envAdd id_aead_Count (.pure cntO) (envAdd id_frame_PutHeader (.pure hdrO) (envAdd id_ratchet_text (.pure textO) (envAdd id_ratchet_none (.pure noneKO) G10))))))))
def SlEV (C : SCry) : Env := envAdd id_ratchet_Check (.full checkC) (envAdd id_slices_Clone_api_Skip (.full cloneRC) (envAdd id_curve_Public (.pure (pubV C.pub)) (envAdd id_kdf_Step (.pure (kstepV C.stA C.stB)) (envAdd id_aead_Seal (.pure (aSealV C.cip)) (envAdd id_aead_Count (.pure cntO) (envAdd id_frame_PutHeader (.pure hdrO) (envAdd id_ratchet_text (.pure textO) (envAdd id_ratchet_none (.pure noneKO) G10))))))))
def sCry : SCry := ⟨pubB, kpA, kpB, sealB⟩
def zMsg : Msg := ⟨hz32, 0, 0, List.replicate 65 0⟩
def sErr (e : Int) : Option Res := some (.tuple [.agg (zRat.segs .nils), .agg zMsg.segs, .int .i64 e], ⟨0, []⟩)
def sealR (C : SCry) (r : Rat) : Rat := ⟨r.root, r.own, r.peer, C.stA r.send, r.recv, u32w (r.sent + 1), r.got, r.bef⟩
def sealM (C : SCry) (r : Rat) (s : ByteArray) : Msg := ⟨C.pub r.own, r.bef, r.sent, fixL 65 (C.cip (C.stB r.send) nz12 (hdrB (fixL 32 (C.pub r.own)) r.bef r.sent) (fixL 49 (txtB s)))⟩
theorem seal_run1 (C : SCry) (nid : Nat) (r : Rat) (n m : Nat) (xs : List (List AV)) (s : ByteArray) : evFn (SlEV C) af_ratchet_Seal [.agg (r.segs (ckS n)), .str s] ⟨16, [roC 0 (.rows 65 m xs)]⟩ (kOut none nid) =
    wSR (cutR n xs) fun ss => bif checkI r ss != 0 then sErr 270 else bif decide (((s.size : Nat) : Int) < 1) then sErr 2 else bif decide (((s.size : Nat) : Int) > 48) then sErr 2 else
      bif r.sent == 2147483648 then sErr 3 else bif (r.send == hz32) && true then sErr 3 else wSR (cutR n xs) fun s2 => if s2.length ≤ 1000 then
        some (.tuple [.agg ((sealR C r).segs (.islR 65 (cutR s2.length (s2.map skR)))), .agg (sealM C r s).segs, .int .i64 0], ⟨0, []⟩) else none := by kernel_rfl
/-- What Seal answers. -/
def sealP (C : SCry) (r : Rat) (ss : List Sk) (s : ByteArray) : Int ⊕ (Rat × Msg) :=
  bif checkI r ss != 0 then .inl 270 else bif decide (((s.size : Nat) : Int) < 1) then .inl 2 else bif decide (((s.size : Nat) : Int) > 48) then .inl 2 else
    bif r.sent == 2147483648 then .inl 3 else bif (r.send == hz32) && true then .inl 3 else .inr (sealR C r, sealM C r s)
def slRes (ss : List Sk) : Int ⊕ (Rat × Msg) → Option Res
  | .inl e => sErr e
  | .inr p => some (.tuple [.agg (p.1.segs (.islR 65 (ss.map skR))), .agg p.2.segs, .int .i64 0], ⟨0, []⟩)
theorem seal_run (C : SCry) (nid : Nat) (r : Rat) (ss : List Sk) (s : ByteArray) (hl : ss.length ≤ 1152921504606846976) : evFn (SlEV C) af_ratchet_Seal [.agg (r.segs (ckS ss.length)), .str s] ⟨16, [roC 0 (.rows 65 ss.length (ss.map skR))]⟩ (kOut none nid) =
    slRes ss (sealP C r ss s) := by
  refine (seal_run1 ..).trans ?_
  rw [cutR_rows, wSR_rows hl, wSR_rows hl]
  unfold sealP
  cases hc : checkI r ss != 0
  · have h8 : ss.length ≤ 8 := checkI_len (by simpa using hc)
    simp only [cond_false]
    rw [if_pos (by omega), cutR_rows]
    cases decide (((s.size : Nat) : Int) < 1) <;> cases decide (((s.size : Nat) : Int) > 48) <;> cases r.sent == 2147483648 <;> cases (r.send == hz32) && true <;> rfl
  · rfl
def sealV1 (ss : List Sk) (v : Int ⊕ (Rat × Msg)) : AV := match v with
  | .inl e => .tuple [.agg (zRat.segs .nils), .agg zMsg.segs, .int .i64 e]
  | .inr p => .tuple [.agg (p.1.segs (.islR 65 (ss.map skR))), .agg p.2.segs, .int .i64 0]
def sealO (C : SCry) : OrcP := fun _ args h => match args with
  | [v, .str s] => withRat v fun r l => withSks h l fun ss => some (sealV1 ss (sealP C r ss s), none)
  | _ => none
theorem seal_pure {P : Program} {f : FuncId} {C : SCry} (F : Fn P f (SlEV C) af_ratchet_Seal) : PureOk P f (sealO C) := by
  refine F.lit [.agg [.rows 65], .plain] none fun nid args hp r ha hr => ?_
  unfold sealO at hr
  split at hr <;> try (cases hr; done)
  rename_i v s
  obtain ⟨q, l, rfl, hr⟩ := withRat_eq hr
  obtain ⟨ss, hc, hl, hr⟩ := withSks_eq hr
  cases hr
  refine ⟨_, _, by simp only [viewArgs, check_view hc, Option.bind_some, Option.map_some, List.append_nil, avIds, avIds.avIdsL, List.isEmpty_nil, if_true]; rfl, by simp, ?_⟩
  refine (seal_run C nid q ss s hl).trans ?_
  unfold sealV1
  cases sealP C q ss s <;> rfl
theorem SlE_eq : SlEV sCry = SlE := by kernel_rfl
theorem seal_pure1 {P : Program} {f : FuncId} (F : Fn P f SlE af_ratchet_Seal) : PureOk P f (sealO sCry) := seal_pure (C := sCry) (by rw [SlE_eq]; exact F)
structure SlV where
  rat : Rat
  sks : List Sk
  msg : Msg
  err : Int
def slV (ss : List Sk) : Int ⊕ (Rat × Msg) → SlV
  | .inl e => ⟨zRat, [], zMsg, e⟩
  | .inr p => ⟨p.1, ss, p.2, 0⟩
abbrev SVal := Rat → List Sk → ByteArray → SlV
def sealW (C : SCry) : SVal := fun r ss s => slV ss (sealP C r ss s)
/-- Seal, with a function that is not looked into. -/
def sealU (V : SVal) : OrcP := fun _ args h => match args with
  | [v, .str s] => withRat v fun r l => withSks h l fun ss => some (.tuple [.agg ((V r ss s).rat.segs (.islR 65 ((V r ss s).sks.map skR))), .agg (V r ss s).msg.segs, .int .i64 (V r ss s).err], none)
  | _ => none
theorem sealU_pure {P : Program} {f : FuncId} {C : SCry} (h : PureOk P f (sealO C)) : PureOk P f (sealU (sealW C)) := by
  refine h.weak fun nid args hp v ob hk => ?_
  unfold sealU at hk
  split at hk <;> try (cases hk; done)
  rename_i v s
  obtain ⟨q, l, rfl, hk1⟩ := withRat_eq hk
  unfold withSks at hk1
  cases hc : contR 65 hp l with
  | none => rw [hc] at hk1; cases hk1
  | some xs =>
    rw [hc] at hk1
    simp only [Option.bind_some] at hk1
    cases hs : skAll xs with
    | none => rw [hs] at hk1; cases hk1
    | some ss =>
      rw [hs] at hk1
      simp only [Option.bind_some] at hk1
      split at hk1 <;> try (cases hk1; done)
      rename_i hl
      cases hk1
      refine ⟨sealV1 ss (sealP C q ss s), ?_, rfl, fun ι x hx => ?_⟩
      · show (withSks hp l fun ss => some (sealV1 ss (sealP C q ss s), none)) = _
        unfold withSks
        rw [hc]
        simp only [Option.bind_some, hs]
        rw [if_pos hl]
      · unfold sealW
        cases ho : sealP C q ss s with
        | inl e =>
          rw [ho] at hx
          obtain ⟨vs, rfl, hv⟩ := hx
          exact ⟨vs, rfl, hv.heads fun y hy => nil_rows hy⟩
        | inr p => rw [ho] at hx; exact hx
def sealUC (V : SVal) : OrcF := fun args h κ => match args with
  | [v, .str s] => withRat v fun r l => withSks h l fun ss => κ (.tuple [.agg ((V r ss s).rat.segs (.islR 65 ((V r ss s).sks.map skR))), .agg (V r ss s).msg.segs, .int .i64 (V r ss s).err]) h
  | _ => none
theorem sealU_full {P : Program} {f : FuncId} {V : SVal} (h : PureOk P f (sealU V)) : FullOk P f (sealUC V) := by
  refine pure_full h fun args hp κ => ?_
  unfold sealUC sealU
  split
  · simp only [withRat_map, withSks_map, Option.bind_some, obH]
  · first
    | rfl
    | (rename_i hx
       split
       · exact (hx _ _ rfl).elim
       · rfl)
end Go.Am
/- RatchetKept, run. -/
namespace Go.Am
set_option linter.unusedSimpArgs false
set_option maxRecDepth 100000
def wakesKC : OrcF := fun args h κ => match args with
  | [] => κ (.bool true) h
  | _ => none
theorem wakesK_full {P : Program} {f : FuncId} (h : PureOk P f wakesO) : FullOk P f wakesKC := by
  refine pure_full h fun args hp κ => ?_
  unfold wakesKC wakesO
  split
  · rfl
  · first
    | rfl
    | (rename_i hx
       split
       · exact (hx rfl).elim
       · rfl)
def KpE : Env := envAdd id_hollowtreelaw17_wakes (.full wakesKC) (envAdd id_ratchet_Put (.full rputC) (envAdd id_ratchet_Open (.full (openUC (openW oCry))) (envAdd id_ratchet_Seal (.full (sealUC (sealW sCry))) (envAdd id_ratchet_Same (.full rsameC) (envAdd id_octet_Equal (.full bytesEqC) G10)))))
def KpEV (O : OVal) (S : SVal) : Env := envAdd id_hollowtreelaw17_wakes (.full wakesKC) (envAdd id_ratchet_Put (.full rputC) (envAdd id_ratchet_Open (.full (openUC O)) (envAdd id_ratchet_Seal (.full (sealUC S)) (envAdd id_ratchet_Same (.full rsameC) (envAdd id_octet_Equal (.full bytesEqC) G10)))))
def wL (ss : List Sk) (k : List Sk → Option Res) : Option Res := wSR (ss.map skR) k
def wB1 (l : AV) (k : List Int → Option Res) : Option Res := (contI .u8 ⟨0, []⟩ l).bind fun xs => if xs.length ≤ 140737488351232 then k xs else none
def msgEq (a b : Msg) : Bool := (a.key == b.key) && ((a.prev == b.prev) && ((a.num == b.num) && ((a.body == b.body) && true)))
def tText : ByteArray := ⟨#[116, 101, 120, 116]⟩
def kpFin (W N : AV) (a : OpV) (s : SlV) (b : OpV) (q : SlV) : Option Res :=
  wB1 W fun w => wB1 N fun n => bif w == n then wL a.sks fun s1 => wL b.sks fun s2 => bif sameB a.rat b.rat s1 s2 then bif a.txt.toList == b.txt.toList then bif a.err == b.err then
    wL s.sks fun s3 => wL q.sks fun s4 => bif sameB s.rat q.rat s3 s4 then bif msgEq s.msg q.msg then yes (s.err == q.err) else yes false else yes false else yes false else yes false else yes false else yes false
theorem kept_run1 (O : OVal) (S : SVal) (r : Rat) (len : Nat) (xs : List (List AV)) (g : Msg) (fr : List Int) : evFn (KpEV O S) af_hollowtreelaw17_RatchetKept [.agg (r.segs (sl65 0 len)), .agg g.segs, key fr] ⟨16, [roC 0 (.rows 65 len xs)]⟩ kV =
    wSR (cutR len xs) fun s0 => bif checkI r s0 != 0 then yes true else
      wSR (cutR len xs) fun s1 => wSR (cutR len xs) fun s2 => wSR (cutR len xs) fun s3 => wSR (cutR len xs) fun s4 => wSR (cutR len xs) fun s5 =>
        bif checkI r s5 != 0 then kpFin (.isl .u8 (putB r s0)) .nils (O r s1 g fr) (S r s2 tText) (O r s3 g fr) (S r s4 tText) else kpFin (.isl .u8 (putB r s0)) (.isl .u8 (putB r s5)) (O r s1 g fr) (S r s2 tText) (O r s3 g fr) (S r s4 tText) := by kernel_rfl
theorem eqSks_self' : ∀ ss : List Sk, eqSks ss ss = true
  | [] => rfl
  | s :: r => by simp only [eqSks, skEq, beq_self_eq_true, Bool.true_and, eqSks_self' r]
theorem sameB_self (r : Rat) (ss : List Sk) : sameB r r ss ss = true := by simp [sameB, ratEq, eqSks_self']
theorem msgEq_self (m : Msg) : msgEq m m = true := by simp [msgEq]
theorem kpFin_self (w : List Int) (hw : w.length ≤ 140737488351232) (a : OpV) (s : SlV) (ha : a.sks.length ≤ 1152921504606846976) (hs : s.sks.length ≤ 1152921504606846976) :
    kpFin (.isl .u8 w) (.isl .u8 w) a s a s = yes true := by
  have hb : ∀ k, wB1 (.isl .u8 w) k = k w := fun k => by
    show (if w.length ≤ 140737488351232 then k w else none) = k w
    rw [if_pos hw]
  have ha' : ∀ k, wL a.sks k = k a.sks := fun k => wSR_rows ha k
  have hs' : ∀ k, wL s.sks k = k s.sks := fun k => wSR_rows hs k
  unfold kpFin
  simp only [hb, ha', hs', beq_self_eq_true, cond_true, sameB_self, msgEq_self]
/-- What Open keeps is short. -/
theorem openP_len (C : OCry) {r : Rat} {ss : List Sk} {g : Msg} {fr : List Int} {p : Rat × List Sk × ByteArray} (h : openP C r ss g fr = .inr p) : p.2.1.length ≤ 8 := by
  have hL : ∀ r ss, openL C r ss g = .inr p → p.2.1.length ≤ 8 := fun r ss h => by
    unfold openL at h
    cases ho : C.ok (C.stB r.recv) g
    · rw [ho] at h; cases h
    · rw [ho] at h
      simp only [Bool.not_true, cond_false] at h
      cases hc : checkI (lastR C r) ss != 0
      · rw [hc] at h
        cases h
        exact checkI_len (by simpa using hc)
      · rw [hc] at h; cases h
  have hQ : openQ C r ss g fr = .inr p → p.2.1.length ≤ 8 := fun h => by
    unfold openQ at h
    cases hd : decide (overI r ss.length g.key g.prev g.num > 8)
    · rw [hd] at h
      simp only [cond_false] at h
      cases hk : (g.key == r.peer) && true
      · rw [hk] at h; exact hL _ _ h
      · rw [hk] at h; exact hL _ _ h
    · rw [hd] at h; cases h
  unfold openP at h
  cases hc : checkI r ss != 0
  · rw [hc] at h
    simp only [cond_false] at h
    have h8 : ss.length ≤ 8 := checkI_len (by simpa using hc)
    cases hf : decide (findI g.key g.num ss 0 ≥ 0)
    · rw [hf] at h
      simp only [cond_false] at h
      cases hl : C.low g.key
      · rw [hl] at h
        simp only [cond_false] at h
        cases hk : (g.key == r.peer) && true
        · rw [hk] at h; exact hQ h
        · rw [hk] at h
          simp only [cond_true] at h
          cases hz : (r.recv == hz32) && true
          · rw [hz] at h
            simp only [cond_false] at h
            cases hg : decide (g.num < r.got)
            · rw [hg] at h; exact hQ h
            · rw [hg] at h; cases h
          · rw [hz] at h; cases h
      · rw [hl] at h; cases h
    · rw [hf] at h
      simp only [cond_true] at h
      unfold openF at h
      cases ho : C.ok (ss.getD (findI g.key g.num ss 0).toNat zeroSk).sec g
      · rw [ho] at h; cases h
      · rw [ho] at h
        cases h
        have := List.length_eraseIdx_le ss (findI g.key g.num ss 0).toNat
        simp only
        omega
  · rw [hc] at h; cases h
theorem openW_len (C : OCry) (r : Rat) (ss : List Sk) (g : Msg) (fr : List Int) : (openW C r ss g fr).sks.length ≤ 8 := by
  unfold openW
  cases h : openP C r ss g fr with
  | inl e => exact Nat.zero_le _
  | inr p => exact openP_len C h
theorem sealW_len (C : SCry) (r : Rat) (ss : List Sk) (s : ByteArray) : (sealW C r ss s).sks.length ≤ ss.length := by
  unfold sealW
  cases h : sealP C r ss s with
  | inl e => exact Nat.zero_le _
  | inr p => exact Nat.le_refl _
theorem kept_run (O : OVal) (S : SVal) (hO : ∀ r ss g fr, (O r ss g fr).sks.length ≤ 8) (hS : ∀ r ss s, (S r ss s).sks.length ≤ ss.length) (r : Rat) (ss : List Sk) (g : Msg) (fr : List Int) (hr : RatOk r) (hs : ∀ s ∈ ss, SkOk s) (hl : ss.length ≤ 1152921504606846976) :
    evFn (KpEV O S) af_hollowtreelaw17_RatchetKept [.agg (r.segs (sl65 0 ss.length)), .agg g.segs, key fr] ⟨16, [roC 0 (.rows 65 ss.length (ss.map skR))]⟩ kV = yes true := by
  refine (kept_run1 ..).trans ?_
  rw [cutR_rows]
  simp only [wSR_rows hl]
  cases hc : checkI r ss != 0
  · simp only [cond_false]
    have hw : (putB r ss).length ≤ 140737488351232 := by
      have := putN_len hr hs 8
      unfold putB
      omega
    exact kpFin_self _ hw _ _ (by have := hO r ss g fr; omega) (by have := hS r ss tText; omega)
  · rfl
theorem KpE_eq : KpEV (openW oCry) (sealW sCry) = KpE := by kernel_rfl
end Go.Am
/- slices.Delete of one row of many cells: the walk. -/
namespace Go.Proofs.AmDel
open Go.RowKit Go.Lib Go.Shelf
theorem info52 : (Try.prog.info? 52).map (fun i => i.size) = some 65 := by kernel_rfl
def zk : List Value := List.replicate 32 (.int .u8 0) ++ [.int .u32 0] ++ List.replicate 32 (.int .u8 0)
theorem run_clear52 (w : World) (ty : TypeId) (b o c : Nat) (hc : ∀ j, j < 65 → (w.cell? ⟨b, o + j, none⟩).isSome = true) (hf : ∀ j, j < 65 → w.frozen? ⟨b, o + j, none⟩ = false) :
    (Builtin.clear_ #[25] ty #[.slice (some ⟨b, o, none⟩) 1 c]).run Try.prog w = .ok (.tuple #[]) (w.setCells b o zk) := by
  have hz : (Builtin.zeroCells (Value.agg Try.zeroCells52).cells 1).toList = zk := by kernel_rfl
  have hst := run_storeCells_cells (P := Try.prog) b o zk 0 w (by simpa [zk] using hc) (by simpa [zk] using hf) (by intro v hv; simp only [zk, List.mem_append, List.mem_replicate, List.mem_singleton] at hv; rcases hv with (⟨_, rfl⟩ | rfl) | ⟨_, rfl⟩ <;> rfl)
  simp only [Nat.add_zero] at hst
  simp [Builtin.clear_, run_underlying Try.underlying25, hz, hst]
set_option maxHeartbeats 4000000 in
set_option maxRecDepth 1000000 in
theorem del_walk (blk off cap n i j : Nat) (cells : List Value) (w : World) (hl : cells.length = n * 65) (hij : j = i + 1) (hi : i < n) (hcap : n ≤ cap) (hc : ∀ (j : Nat) u, cells[j]? = some u → w.cell? ⟨blk, off + j, none⟩ = some u)
    (hf : ∀ j, j < n * 65 → w.frozen? ⟨blk, off + j, none⟩ = false) (h1c : ∀ u ∈ cells, u.oneCell' = true) :
    Calls Try.prog 17 #[.slice (some ⟨blk, off, none⟩) n cap, .int .i64 i, .int .i64 j] w fun e w' => e = .returned (.slice (some ⟨blk, off, none⟩) (n - 1) cap) ∧
      w' = (w.drew.setCells blk (off + i * 65) (cells.drop (j * 65))).setCells blk (off + (n - 1) * 65) zk := by
  have mixed : Try.prog.follows .mixedOrders = true := by kernel_rfl
  obtain ⟨i0, hi0, hz1⟩ : ∃ i0, Try.prog.info? 52 = some i0 ∧ i0.size = 65 := by
    have := info52
    cases h : Try.prog.info? 52 with
    | none => rw [h] at this; cases this
    | some i0 => rw [h] at this; exact ⟨i0, rfl, by simpa using this⟩
  have hlt : i < j := by omega
  have hj : j ≤ n := by omega
  obtain ⟨news, hnews⟩ : ∃ news, news = cells.drop (j * 65) := ⟨_, rfl⟩
  have hlen : news.length = (n - j) * 65 := by rw [hnews, List.length_drop, hl, Nat.sub_mul]
  have hget : ∀ t u, news[t]? = some u → w.cell? ⟨blk, off + (j * 65 + t), none⟩ = some u := fun t u hu => by
    rw [hnews, List.getElem?_drop] at hu
    exact hc _ _ hu
  obtain ⟨A, hA, hsrc⟩ : ∃ A : Addr, (if cap = j then some (⟨blk, off, none⟩ : Addr) else some ⟨blk, off + j * 65, none⟩) = some A ∧ Hid (∀ t u, news[t]? = some u → w.drew.cell? (A.add t) = some u) := by
    by_cases h : cap = j
    · refine ⟨⟨blk, off, none⟩, by simp [h], fun t u hu => ?_⟩
      have h0 : news.length = 0 := by rw [hlen]; omega
      rw [List.length_eq_zero_iff.1 h0] at hu
      simp at hu
    · refine ⟨⟨blk, off + j * 65, none⟩, by simp [h], fun t u hu => ?_⟩
      rw [Addr.add_lit, show off + j * 65 + t = off + (j * 65 + t) by omega]
      exact hget t u hu
  have s1 : Hid (news.length = (n - j) * 65) := hlen
  have s2 : Hid (∀ u ∈ news, u.oneCell' = true) := by
    intro u hu
    rw [hnews] at hu
    exact h1c u (List.mem_of_mem_drop hu)
  have hsome : ∀ j, j < n * 65 → (w.cell? ⟨blk, off + j, none⟩).isSome = true := fun j hj => by
    rw [hc j (cells[j]'(by omega)) (List.getElem?_eq_getElem (by omega))]; rfl
  have s3 : Hid (∀ t, t < news.length → (w.drew.cell? ⟨blk, off + i * 65 + t, none⟩).isSome = true ∧ w.drew.frozen? ⟨blk, off + i * 65 + t, none⟩ = false) := by
    intro t ht
    rw [hlen] at ht
    rw [Nat.add_assoc]
    exact ⟨hsome _ (by omega), hf _ (by omega)⟩
  obtain ⟨W1, hW1⟩ : ∃ W1, W1 = w.drew.setCells blk (off + i * 65) news := ⟨_, rfl⟩
  have hcl : ∀ ty, (Builtin.clear_ #[25] ty #[.slice (some ⟨blk, off + (i + (n - j)) * 65, none⟩) (n - (i + (n - j))) (cap - (i + (n - j)))]).run Try.prog W1 = .ok (.tuple #[]) (W1.setCells blk (off + (i + (n - j)) * 65) zk) := fun ty => by
    have e1 : n - (i + (n - j)) = 1 := by omega
    rw [e1]
    refine run_clear52 W1 ty blk _ _ (fun q hq => ?_) fun q hq => ?_
    · rw [hW1]
      rw [Nat.add_assoc]
      exact World.isSome_setCells blk news _ _ _ (hsome _ (by omega))
    · rw [hW1, World.frozen?_setCells, Nat.add_assoc]
      exact hf _ (by omega)
  have hW : Hid (W1 = w.drew.setCells blk (off + i * 65) news) := hW1
  have X : Aside (W1 = w.drew.setCells blk (off + i * 65) (cells.drop (j * 65))) := by rw [hW1, hnews]; exact rfl
  have E : Aside (j = i + 1) := hij
  have hic : i ≤ cap := by omega
  have hjc : j ≤ cap := by omega
  have hne : ¬ i = j := by omega
  clear hW1 hget hnews hlen hc hf h1c hsome hij
  go_enter Try.func17, Try.ntmps17
  go_wp2_with fail
  go_region_law_o (refine step_append_room rfl (.tmp 22) (.tmp 25) 25 rfl 52 i0 65 Try.underlying25 hi0 hz1 blk off i cap (by simp [Act.eval, Act.put]) A (n - j) (cap - j) news (by simp [Act.eval, Act.put]) s1.out hsrc.out s2.out (by omega) s3.out ?_; rw [← hW.out])
  go_wp2
  go_ret
  have e1 : i + (n - j) = n - 1 := by have := E.out; omega
  refine ⟨by rw [← e1]; rfl, ?_⟩
  rw [← X.out, ← e1]
end Go.Proofs.AmDel
/- slices.Delete of one row, as an oracle. -/
namespace Go.Am
open Go.Proofs
set_option linter.unusedSimpArgs false
set_option maxRecDepth 100000
theorem setCells_row {P : Program} {b o : Nat} {vs : List Value} {w : World} {arr : Array Value} {el : TypeId} {fz : Nat × Nat} (h : w.heap[b]? = some (.cells arr el fz)) (hn : o + vs.length ≤ arr.size) (h1 : ∀ v ∈ vs, v.oneCell' = true) (hz : ∀ j, j < arr.size → ¬ (fz.1 ≤ j ∧ j < fz.2)) :
    w.setCells b o vs = w.setRow b (arr.toList.take o ++ vs ++ arr.toList.drop (o + vs.length)).toArray := by
  have e1 := run_storeRow (P := P) b o el fz vs 0 arr w h (by omega) h1 hz
  have hc : ∀ k, k < arr.size → (w.cell? ⟨b, k, none⟩).isSome = true := fun k hk => by simp [World.cell?, h, hk]
  have hf : ∀ k, k < arr.size → w.frozen? ⟨b, k, none⟩ = false := fun k hk => by
    have := hz k hk
    simp only [World.frozen?, h]
    simp only [Bool.and_eq_false_iff, decide_eq_false_iff_not]
    by_cases h0 : fz.1 ≤ k
    · right; intro h2; exact this ⟨h0, h2⟩
    · exact .inl h0
  have e2 := run_storeCells_cells (P := P) b o vs 0 w (fun j hj => hc _ (by omega)) (fun j hj => hf _ (by omega)) h1
  rw [e1] at e2
  simp only [Nat.add_zero, Result.ok.injEq, true_and] at e2
  exact e2.symm
theorem setRow_size (w : World) (g : Nat) (cs : Array Value) : (w.setRow g cs).heap.size = w.heap.size := by simp [World.setRow]
theorem del_full : FullOk Try.prog id_slices_Delete_api_Skip_slices_go_233 delC where
  factor := fun args h κ => by
    unfold delC
    split
    · split
      · split <;> rfl
      · rfl
    · rfl
  sound := fun args h v h' ι w vs hk R hf ha => by
    unfold delC at hk
    split at hk <;> try (cases hk; done)
    rename_i id n i j
    split at hk <;> try (cases hk; done)
    rename_i ci m xs hg
    split at hk <;> try (cases hk; done)
    rename_i hcnd
    obtain ⟨rfl, hi0, hin, rfl⟩ := hcnd
    simp only [kH, Option.some.injEq, Prod.mk.injEq] at hk
    obtain ⟨rfl, rfl⟩ := hk
    obtain ⟨v1, r1, e1, h1, k1⟩ := ha.uncons
    obtain ⟨v2, r2, rfl, h2, k2⟩ := k1.uncons
    obtain ⟨v3, r3, rfl, h3, k3⟩ := k2.uncons
    have : r3 = [] := List.eq_nil_of_length_eq_zero k3.1.symm
    subst this
    obtain ⟨rfl, _⟩ := (show v2 = .int .i64 i ∧ rng .i64 i from h2)
    obtain ⟨rfl, _⟩ := (show v3 = .int .i64 (i + 1) ∧ rng .i64 (i + 1) from h3)
    obtain ⟨p, a, c, hp, rfl, SL⟩ := h1.slice
    have hv : vs = #[.slice a m c, .int .i64 (i.toNat : Nat), .int .i64 ((i.toNat + 1 : Nat) : Int)] := by
      cases vs; simp only at e1; rw [e1]
      rw [show ((i.toNat : Nat) : Int) = i by omega, show ((i.toNat + 1 : Nat) : Int) = i + 1 by omega]
    subst hv
    obtain ⟨q, hq⟩ : ∃ q, q = i.toNat := ⟨_, rfl⟩
    rw [← hq] at hin ⊢
    clear e1 ha k1 k2 k3 h1 h2 h3
    obtain ⟨p', hp', wf, hs, h0, h1⟩ := R.blk id _ hg
    rw [hp] at hp'; cases hp'
    obtain ⟨hxl, hrows⟩ : xs.length = m ∧ ∀ r ∈ xs, RowWf 65 r := wf
    have hce : ∀ y ∈ xs, (cellsL y).length = 65 := fun y hy => (hrows y hy).2.1
    have hsz : p.size = m * 65 := by
      rw [← hs]; show (xs.flatMap cellsL).length = _
      rw [rows_len hce, hxl]
    have hlim : p.lim ≠ 0 := fun e => by have := h0 e; omega
    have hcc : c ≠ 0 := by have := SL.le; omega
    have ha : a = some ⟨p.blk, p.base, none⟩ := by
      have := SL.addr.resolve_left hcc
      simpa using this
    subst ha
    obtain ⟨arr, el, fz, hrow, z1, z2, z3, z4⟩ := (rowOf (h1 hlim) (fun _ _ e => by cases e)).row
    have z4' := z4 rfl
    obtain ⟨OC, hOC⟩ : ∃ OC, OC = xs.flatMap cellsL := ⟨_, rfl⟩
    have hol0 : OC.length = m * 65 := by rw [hOC, rows_len hce, hxl]
    obtain ⟨olds, _, co, hcell⟩ := R.load (P := Try.prog) (q := 0) (l := OC) hg hp hol0 (fun k _ => by rw [hOC, Nat.zero_add]; rfl) (fun _ _ e => by cases e)
    have hol : olds.length = m * 65 := by rw [← co.1, hol0]
    have hcell' : ∀ (k : Nat) u, olds[k]? = some u → w.cell? ⟨p.blk, p.base + k, none⟩ = some u := fun k u hu => by
      have := hcell k u hu
      rw [addr_add] at this
      simpa using this
    have harr : ∀ (k : Nat) u, olds[k]? = some u → arr[p.base + k]? = some u := fun k u hu => by
      have := hcell' k u hu
      simpa [World.cell?, hrow] using this
    have henter : ∀ xs, (callFunc 17 xs).run Try.prog w = .ok (.enter 17 xs) w := fun xs => by
      simp [callFunc, Try.func17, Try.f17]
    refine .inr ⟨henter _, (AmDel.del_walk p.blk p.base c m q (q + 1) olds w hol rfl hin SL.le hcell' (fun k hk => ?_) co.one).mono fun e w' hx => ?_⟩
    · have := z4' (p.base + k) (by omega)
      simp only [World.frozen?, hrow]
      simp only [Bool.and_eq_false_iff, decide_eq_false_iff_not]
      by_cases h0 : fz.1 ≤ p.base + k
      · right; intro h2; exact this ⟨h0, h2⟩
      · exact .inl h0
    obtain ⟨rfl, rfl⟩ := hx
    refine ⟨_, rfl, ?_⟩
    have hzl : AmDel.zk.length = 65 := by simp [AmDel.zk]
    have hzo : ∀ v ∈ AmDel.zk, v.oneCell' = true := by
      intro v hv
      simp only [AmDel.zk, List.mem_append, List.mem_replicate, List.mem_singleton] at hv
      rcases hv with (⟨_, rfl⟩ | rfl) | ⟨_, rfl⟩ <;> rfl
    have hdl : (olds.drop ((q + 1) * 65)).length = (m - (q + 1)) * 65 := by rw [List.length_drop, hol, Nat.sub_mul]
    obtain ⟨L1, hL1⟩ : ∃ L1, L1 = olds.drop ((q + 1) * 65) := ⟨_, rfl⟩
    rw [← hL1] at hdl ⊢
    have hL1o : ∀ v ∈ L1, v.oneCell' = true := fun v hv => co.one v (by rw [hL1] at hv; exact List.mem_of_mem_drop hv)
    have e1 := setCells_row (P := Try.prog) (b := p.blk) (o := p.base + q * 65) (vs := L1) (w := w.drew) (arr := arr) (el := el) (fz := fz) hrow (by omega) hL1o (fun k hk => z4' k (by omega))
    obtain ⟨arr1, ha1⟩ : ∃ arr1, arr1 = (arr.toList.take (p.base + q * 65) ++ L1 ++ arr.toList.drop (p.base + q * 65 + L1.length)).toArray := ⟨_, rfl⟩
    rw [← ha1] at e1
    have hs1 : arr1.size = arr.size := by rw [ha1]; simp; omega
    have hr1 : (w.drew.setRow p.blk arr1).heap[p.blk]? = some (.cells arr1 el fz) := setRow_heap _ _ _ _ _ _ hrow
    have e2 := setCells_row (P := Try.prog) (b := p.blk) (o := p.base + (m - 1) * 65) (vs := AmDel.zk) (w := w.drew.setRow p.blk arr1) (arr := arr1) (el := el) (fz := fz) hr1 (by omega) hzo (fun k hk => z4' k (by omega))
    obtain ⟨arr2, ha2⟩ : ∃ arr2, arr2 = (arr1.toList.take (p.base + (m - 1) * 65) ++ AmDel.zk ++ arr1.toList.drop (p.base + (m - 1) * 65 + AmDel.zk.length)).toArray := ⟨_, rfl⟩
    rw [← ha2] at e2
    have hs2 : arr2.size = arr.size := by rw [ha2]; simp; omega
    rw [e1, e2]
    have hn : ι h.next = none := hf _ (Nat.le_refl _)
    have hget : ∀ k, ((h.del id).new (.rows 65 (m - 1) (xs.eraseIdx q))).get k = if k = h.next then some ⟨h.next, false, .rows 65 (m - 1) (xs.eraseIdx q)⟩ else if k = id then none else h.get k := fun k => by
      have hd : (h.del id).get (h.del id).next = none := by
        rw [get_del]; split
        · rfl
        · exact R.dom hn
      have := get_new (h := h.del id) (id := k) (b := .rows 65 (m - 1) (xs.eraseIdx q)) hd
      rw [get_del] at this
      exact this
    have hcells : (xs.eraseIdx q).flatMap cellsL = OC.take (q * 65) ++ OC.drop ((q + 1) * 65) := by
      rw [List.eraseIdx_eq_take_drop_succ, List.flatMap_append, flatMap_take _ _ hce, flatMap_drop _ _ hce, hOC]
    have hnl : ((xs.eraseIdx q).flatMap cellsL).length = (m - 1) * 65 := by
      rw [hcells, List.length_append, List.length_take, List.length_drop, hol0]
      omega
    obtain ⟨r1, r2⟩ := R.rename (h' := (h.del id).new (.rows 65 (m - 1) (xs.eraseIdx q))) (w' := (w.drew.setRow p.blk arr1).setRow p.blk arr2) (nid := h.next) (q := ⟨p.blk, p.base, (m - 1) * 65, p.lim⟩) (b := .rows 65 (m - 1) (xs.eraseIdx q)) hg rfl hp hn rfl rfl rfl rfl rfl (by rw [setRow_size, setRow_size]; rfl)
      (fun k hk => by rw [setRow_other _ _ _ _ (hk.resolve_left hlim), setRow_other _ _ _ _ (hk.resolve_left hlim)]; rfl) hget ⟨by rw [List.length_eraseIdx_of_lt (by omega), hxl], fun r hr => hrows r (List.mem_of_mem_eraseIdx hr)⟩ hnl (fun h2 => absurd h2 hlim) (fun _ =>
        ⟨arr2, el, fz, setRow_heap _ _ _ _ _ _ hr1, by rw [hs2, z1], by simp only; omega, fun k v hk => by
          replace hk : ((xs.eraseIdx q).flatMap cellsL)[k]? = some v := hk
          have hkl : k < (m - 1) * 65 := by rw [← hnl]; exact (List.getElem?_eq_some_iff.1 hk).1
          rw [hcells] at hk
          have g2 : arr2[p.base + k]? = arr1[p.base + k]? := by
            have := spl_get arr1.toList AmDel.zk (p.base + (m - 1) * 65) (by simp; omega) (p.base + k)
            rw [if_neg (by omega)] at this
            rw [ha2]
            simpa using this
          have g1 : arr1[p.base + k]? = if q * 65 ≤ k then L1[k - q * 65]? else arr[p.base + k]? := by
            have := spl_get arr.toList L1 (p.base + q * 65) (by simp; omega) (p.base + k)
            rw [ha1]
            simp only [List.getElem?_toArray]
            rw [this]
            by_cases h5 : q * 65 ≤ k
            · rw [if_pos ⟨by omega, by omega⟩, if_pos h5]; congr 1; omega
            · rw [if_neg (by omega), if_neg h5]; simp
          rw [g2, g1]
          by_cases h5 : q * 65 ≤ k
          · rw [if_pos h5]
            rw [List.getElem?_append_right (by simp; omega), List.getElem?_drop] at hk
            have e5 : (q + 1) * 65 + (k - (OC.take (q * 65)).length) = (q + 1) * 65 + (k - q * 65) := by rw [List.length_take, Nat.min_eq_left (by omega)]
            rw [e5] at hk
            obtain ⟨x, hx, hsr⟩ := co.2 _ v hk
            refine ⟨x, ?_, hsr.mono (Inj.le_upd hn)⟩
            rw [hL1, List.getElem?_drop]
            exact hx
          · rw [if_neg h5]
            rw [List.getElem?_append_left (by simp; omega), List.getElem?_take, if_pos (by omega)] at hk
            obtain ⟨x, hx, hsr⟩ := co.2 _ v hk
            exact ⟨x, harr k x hx, hsr.mono (Inj.le_upd hn)⟩, fun _ o ho => z4' o ho⟩)
    refine ⟨_, ⟨_, some ⟨p.blk, p.base, none⟩, c, Inj.upd_same _ _ _, rfl, ⟨by have := SL.le; omega, .inr (by simp), fun m hm => (by cases hm), by simp [esz], ?_⟩⟩, r1, r2, ⟨Nat.le_succ _, fun k hk => Inj.upd_ne _ _ (by rcases hk with hk | hk <;> first | omega | (intro e; subst e; exact absurd hk (Nat.not_succ_le_self _)))⟩⟩
    rcases SL.most with h9 | h9
    · exact absurd h9 hcc
    · right; simp only [esz, Nat.zero_add] at h9 ⊢; omega
end Go.Am
