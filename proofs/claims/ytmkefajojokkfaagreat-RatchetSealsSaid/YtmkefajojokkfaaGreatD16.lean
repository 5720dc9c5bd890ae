/- RatchetSeals: part 17 of 50 of its proof. -/
import Derived.Test.YtmkefajojokkfaaGreatD15
import Derived.Test.YtmkefajojokkfaaGreatD14
set_option linter.unusedVariables false
set_option linter.unusedSimpArgs false
namespace Go.Am
set_option linter.unusedSimpArgs false
def kObj (fv : Bool) (fo : List Nat) : AV → Heap → Option Res := fun v h' => (if fv then frzD h' v else some (v, h')).bind fun p => (frzObjs fo p.2).bind fun h1 =>
  match h1.get 0 with
  | some ⟨_, false, .segs l⟩ => if (avIds p.1).isEmpty && (avIds.avIdsL l).isEmpty then some (p.1, ⟨0, [⟨0, false, .segs l⟩]⟩) else none
  | _ => none
def objO (o1 : Nat → List AV → List AV → Heap → Option (AV × List AV)) (args : List AV) (h : Heap) (κ : AV → Heap → Option Res) : Option Res :=
  match args with
  | .ptr id 0 0 0 0 :: rest => match h.get id with
    | some ⟨_, false, .segs l⟩ => (o1 id l rest h).bind fun r => κ r.1 (h.set id (.segs r.2))
    | _ => none
  | _ => none
theorem objO_factor (o1 : Nat → List AV → List AV → Heap → Option (AV × List AV)) : Factor (objO o1) := by
  intro args h κ
  unfold objO
  split
  · split
    · rename_i l _
      cases o1 _ l _ h <;> rfl
    · rfl
  · rfl
theorem reach1 {h : Heap} {id : Nat} {c : Cell} (hg : h.get id = some c) (hb : blkIds c.blk = []) : reachN h 64 [id] [] = [id] := by
  simp only [reachN, List.contains_nil, Bool.false_eq_true, if_false, hg, hb, List.append_nil, List.nil_append]
theorem reach0 {h : Heap} : reachN h 64 [] [] = [] := rfl
theorem rootsOf_arg (l : List AV) (as : List AK) : rootsOf l (as.map .arg) = [] := by
  induction l generalizing as with
  | nil => cases as <;> rfl
  | cons v r ih => cases as with
    | nil => rfl
    | cons a as => exact ih as
theorem Fn.obj {P : Program} {f : FuncId} {Γ : Env} {af : AFn} (F : Fn P f Γ af) (as : List AK) (fv : Bool) (fo : List Nat) {o1 : Nat → List AV → List AV → Heap → Option (AV × List AV)}
    (h : ∀ id l rest hp v l', HOk hp rest → SegsWf l → ArgsOk l → o1 id l rest hp = some (v, l') → avIds.avIdsL l = [] ∧ ∃ rest' bl, viewObjs hp [id] rest (as.map .arg) 1 = some (rest', bl) ∧ bl.length + 1 ≤ 16 ∧
      evFn Γ af (.ptr 0 0 0 0 0 :: rest') ⟨16, ⟨0, false, .segs l⟩ :: bl⟩ (kObj fv fo) = some (v, ⟨0, [⟨0, false, .segs l'⟩]⟩)) : FullOk P f (objO o1) where
  factor := objO_factor o1
  sound := fun args hp v h' ι w vs hk R hfr ha => by
    unfold objO at hk
    split at hk <;> try (cases hk; done)
    rename_i id rest
    split at hk <;> try (cases hk; done)
    rename_i ci l hg
    cases hr : o1 id l rest hp with
    | none => rw [hr] at hk; cases hk
    | some r =>
      obtain ⟨v', l'⟩ := r
      rw [hr] at hk
      simp only [Option.bind_some, kH, Option.some.injEq, Prod.mk.injEq] at hk
      obtain ⟨rfl, rfl⟩ := hk
      obtain ⟨xp, rs, hvs, hvp, hvr⟩ := ha.uncons
      have hok : HOk hp rest := .of R hvr
      have hl : SegsWf l ∧ ArgsOk l := by
        obtain ⟨p, hp', wf, hs, h0, h3⟩ := R.blk id _ hg
        refine ⟨wf, AOk_cells wf fun c hc => ?_⟩
        obtain ⟨i, hi⟩ := List.mem_iff_getElem?.1 hc
        obtain ⟨x, _, hsr⟩ := R.cell hg hp' (q := i) (v := c) hi (by intros; simp)
        exact hsr.ok
      obtain ⟨hid, rest', bl, hv, hlen, hrun⟩ := h id l rest hp _ l' hok hl.1 hl.2 hr
      refine (litG_ok (ks := .obj :: as.map .arg) (fv := fv) (fo := fo) F.ok).sound (.ptr id 0 0 0 0 :: rest) hp _ _ ι w vs ?_ R hfr ha
      have hb : blkIds (⟨ci, false, .segs l⟩ : Cell).blk = [] := hid
      have hpos : posN [id] id = 0 := by simp [posN]
      have hG : litG (.obj :: as.map .arg) fv fo 16 (fun args h κ => evFn Γ af args h κ) (.ptr id 0 0 0 0 :: rest) hp = some (v', hp.set id (.segs l')) := by
        unfold litG
        have hroots : rootsOf (.ptr id 0 0 0 0 :: rest) (.obj :: as.map .arg) = [id] := by simp only [rootsOf, avIds, rootsOf_arg, List.append_nil]
        have hrn : rnL (posN [id]) l = l := rnL_id l hid
        have hob : objBlks hp (posN [id]) [id] 0 = some [⟨0, false, .segs l⟩] := by simp only [objBlks, hg, Option.map_some, rnBlk, hrn]
        have hvo : viewObjs hp [id] (.ptr id 0 0 0 0 :: rest) (.obj :: as.map .arg) 1 = some (.ptr 0 0 0 0 0 :: rest', bl) := by
          simp only [viewObjs, avIds, List.all_cons, List.all_nil, Bool.and_true, List.contains_cons, List.contains_nil, Bool.or_false, beq_self_eq_true, if_true, List.length_singleton, hv, Option.map_some, rnAV, hpos]
        simp only [hroots, reach1 hg hb, hob, Option.bind_some, List.length_singleton, hvo]
        rw [if_pos (by simp only [List.all_cons, List.all_nil, hg, hb, Bool.and_true, Bool.true_and, decide_eq_true_eq]; omega)]
        have h4 := F.factor (.ptr 0 0 0 0 0 :: rest') ⟨16, ⟨0, false, .segs l⟩ :: bl⟩ (kObj fv fo)
        simp only at h4
        rw [h4] at hrun
        show (evFn Γ af (.ptr 0 0 0 0 0 :: rest') ⟨16, ⟨0, false, .segs l⟩ :: bl⟩ kH).bind _ = _
        cases he : evFn Γ af (.ptr 0 0 0 0 0 :: rest') ⟨16, ⟨0, false, .segs l⟩ :: bl⟩ kH with
        | none => rw [he] at hrun; cases hrun
        | some r =>
          obtain ⟨v0, h0⟩ := r
          rw [he] at hrun
          simp only [Option.bind_some, kObj] at hrun ⊢
          unfold outG
          cases hf1 : (if fv = true then frzD h0 v0 else some (v0, h0)) with
          | none => rw [hf1] at hrun; cases hrun
          | some p =>
            rw [hf1] at hrun
            simp only [Option.bind_some] at hrun ⊢
            cases hf2 : frzObjs fo p.2 with
            | none => rw [hf2] at hrun; cases hrun
            | some h1 =>
              rw [hf2] at hrun
              simp only [Option.bind_some] at hrun ⊢
              cases hg0 : h1.get 0 with
              | none => rw [hg0] at hrun; cases hrun
              | some c0 =>
                rw [hg0] at hrun
                split at hrun <;> try (cases hrun; done)
                rename_i ci2 l2 heq
                simp only [Option.some.injEq] at heq
                subst heq
                split at hrun <;> try (cases hrun; done)
                rename_i hemp
                simp only [Bool.and_eq_true, List.isEmpty_iff] at hemp
                obtain ⟨he1, he2⟩ := hemp
                simp only [Option.some.injEq, Prod.mk.injEq, Am.Heap.mk.injEq, List.cons.injEq, Cell.mk.injEq, Blk.segs.injEq, true_and, and_true] at hrun
                obtain ⟨rfl, rfl⟩ := hrun
                have hr1 : List.range 1 = [0] := rfl
                have hb2 : blkIds (⟨ci2, false, .segs l2⟩ : Cell).blk = [] := he2
                simp only [List.length_singleton, hr1, List.flatMap_cons, List.flatMap_nil, hg0, hb2, he1, List.append_nil, List.filter_nil, reach0, okIds, List.all_nil, Bool.and_self, if_true, setAll, Option.bind_some, newAll, Option.map_some, rnBlk, rnL_id l2 he2, rnAV_id _ he1]
      show (litG _ _ _ _ _ _ _).bind _ = _
      rw [hG]
      rfl
def orB (x : Int) (c : Int) (k : Nat) : Int := bw .or .u64 x (w64 (w64 c * 2 ^ (8 * k)))
def word8of (a b c d e f g h : Int) : Int := orB (orB (orB (orB (orB (orB (orB (orB 0 a 0) b 1) c 2) d 3) e 4) f 5) g 6) h 7
def wordL : List Int → Int
  | a :: b :: c :: d :: e :: f :: g :: h :: _ => word8of a b c d e f g h
  | _ => 0
theorem eight {xs : List Int} (h : 8 ≤ xs.length) : ∃ a b c d e f g i r, xs = a :: b :: c :: d :: e :: f :: g :: i :: r := by
  match xs, h with
  | a :: b :: c :: d :: e :: f :: g :: i :: r, _ => exact ⟨a, b, c, d, e, f, g, i, r, rfl⟩
def wordO (_ : Nat) (args : List AV) (h : Am.Heap) : Option (AV × Option Blk) :=
  match args with
  | [s] => (contI .u8 h s).bind fun xs => if 8 ≤ xs.length then some (.int .u64 (wordL xs), none) else none
  | _ => none
theorem word_run (Γ : Env) (nid n : Nat) (a b c d e f g i : Int) (r : List Int) : evFn Γ af_field_word [.slice 0 0 0 n 0 none] ⟨16, [⟨0, true, .segs [.ints .u8 n (a :: b :: c :: d :: e :: f :: g :: i :: r)]⟩]⟩ (kOut none nid) =
    if 0 ≤ (8 : Int) ∧ (8 : Int) ≤ (n : Int) then some (.int .u64 (word8of a b c d e f g i), ⟨0, []⟩) else none := by kernel_rfl
theorem word_pure {P : Program} {f : FuncId} {Γ : Env} (F : Fn P f Γ af_field_word) : PureOk P f wordO := by
  refine F.lit [.sl (.ints .u8)] none fun nid args hp r ha hr => ?_
  unfold wordO at hr
  split at hr <;> try (cases hr; done)
  rename_i s
  cases hc : contI .u8 hp s with
  | none => rw [hc] at hr; cases hr
  | some xs =>
    rw [hc] at hr
    simp only [Option.bind_some] at hr
    split at hr <;> try (cases hr; done)
    rename_i h8
    cases hr
    obtain ⟨a, b, c, d, e, f', g, i, rr, rfl⟩ := eight h8
    refine ⟨_, _, by simp only [viewArgs, contI_isSl hc, if_true, viewS_ints hc, Option.bind_some, Option.map_some]; rfl, by simp, ?_⟩
    rw [word_run, if_pos (by omega)]
    rfl
def G5 : Env := envAdd id_field_word (.pure wordO) (envAdd id_field_Elem_Bytes (.pure bytesO) (envAdd id_field_Elem_Neg (.pure (unO negL)) (envAdd id_field_Elem_Times (.pure timesO) (envAdd id_field_Swap (.pure swapO) G4))))
def tabFrom (f : Nat → Int) : Nat → Nat → List Int
  | _, 0 => []
  | i, n + 1 => f i :: tabFrom f (i + 1) n
def tab (n : Nat) (f : Nat → Int) : List Int := tabFrom f 0 n
theorem tabFrom_get (xs ys : List Int) : tabFrom (fun i => (xs ++ ys).getD i 0) xs.length ys.length = ys := by
  induction ys generalizing xs with
  | nil => rfl
  | cons y r ih =>
    have := ih (xs ++ [y])
    simp only [List.append_assoc, List.singleton_append, List.length_append, List.length_singleton] at this
    simp only [List.length_cons, tabFrom, this, List.cons.injEq, and_true]
    simp
theorem tab_of {xs : List Int} {n : Nat} (h : xs.length = n) : ∃ f, xs = tab n f := by
  refine ⟨fun i => xs.getD i 0, ?_⟩
  have := tabFrom_get [] xs
  simp only [List.nil_append, List.length_nil, h] at this
  exact this.symm
def fromL (xs : List Int) : List Int :=
  let w := wordL ((xs.drop 0).take 32)
  let x := wordL ((xs.drop 8).take 24)
  let y := wordL ((xs.drop 16).take 16)
  let z := bw .and .u64 (wordL ((xs.drop 24).take 8)) 9223372036854775807
  [m51 w, m51 (bw .or .u64 (shr w 51) (shl64 x 13)), m51 (bw .or .u64 (shr x 38) (shl64 y 26)), m51 (bw .or .u64 (shr y 25) (shl64 z 39)), shr z 12]
def fromO (_ : Nat) (args : List AV) (_ : Am.Heap) : Option (AV × Option Blk) :=
  match args with
  | [.agg [.ints .u8 32 xs]] => some (el (fromL xs), none)
  | _ => none
theorem from_pure {P : Program} {f : FuncId} (F : Fn P f G5 af_field_From) : PureOk P f fromO := by
  refine F.plain fun nid args hp r ha hr => ?_
  unfold fromO at hr
  split at hr
  · rename_i xs
    cases hr
    obtain ⟨⟨⟨hl, _⟩, _⟩, _⟩ := ha
    obtain ⟨k, rfl⟩ := tab_of hl
    exact ⟨rfl, rfl, rfl, by kernel_rfl⟩
  · cases hr
def sameO (_ : Nat) (args : List AV) (_ : Am.Heap) : Option (AV × Option Blk) :=
  match args with
  | [.agg [.ints .u64 5 xs], .agg [.ints .u64 5 ys]] => some (.bool (bytesL xs == bytesL ys && true), none)
  | _ => none
theorem same_pure {P : Program} {f : FuncId} (F : Fn P f G5 af_field_Elem_Same) : PureOk P f sameO := by
  refine F.plain fun nid args hp r ha hr => ?_
  unfold sameO at hr
  split at hr
  · rename_i xs ys
    cases hr
    obtain ⟨⟨⟨hl, _⟩, _⟩, ⟨⟨hl', _⟩, _⟩, _⟩ := ha
    obtain ⟨a, b, c, d, e, rfl⟩ := five hl
    obtain ⟨a', b', c', d', e', rfl⟩ := five hl'
    exact ⟨rfl, rfl, rfl, by kernel_rfl⟩
  · cases hr
def expL : List Int := 235 :: List.replicate 30 255 ++ [127]
def powL (x : List Int) : Nat → List Int
  | 0 => ofL 1
  | n + 1 => if (255 - n = 2 ∨ 255 - n = 4 ∨ 255 - n = 255) then sqL (powL x n) else mulL (sqL (powL x n)) x
def invL (x : List Int) : List Int := powL x 256
def powO (_ : Nat) (args : List AV) (_ : Am.Heap) : Option (AV × Option Blk) :=
  match args with
  | [.agg [.ints .u64 5 xs], .agg [.ints .u8 32 es]] => if es = expL then some (el (invL xs), none) else none
  | _ => none
theorem pow_pure {P : Program} {f : FuncId} (F : Fn P f G5 af_field_Elem_Power) : PureOk P f powO := by
  refine F.plain fun nid args hp r ha hr => ?_
  unfold powO at hr
  split at hr
  · rename_i xs es
    split at hr
    · rename_i he
      subst he
      cases hr
      obtain ⟨⟨⟨hl, _⟩, _⟩, _⟩ := ha
      obtain ⟨a, b, c, d, e, rfl⟩ := five hl
      exact ⟨rfl, rfl, rfl, by kernel_rfl⟩
    · cases hr
  · cases hr
def G6 : Env := envAdd id_field_Elem_Power (.pure powO) (envAdd id_field_Elem_Same (.pure sameO) (envAdd id_field_From (.pure fromO) G5))
theorem inv_pure {P : Program} {f : FuncId} (F : Fn P f G6 af_field_Elem_Inv) : PureOk P f (unO invL) := F.un fun a b c d e => by kernel_rfl
def clampL (ks : List Int) : List Int := (ks.set 0 (bw .and .u8 (ks.getD 0 0) 248)).set 31 (bw .or .u8 (bw .and .u8 (ks.getD 31 0) 127) 64)
def keyO (g : List Int → List Int) (_ : Nat) (args : List AV) (_ : Am.Heap) : Option (AV × Option Blk) :=
  match args with
  | [.agg [.ints .u8 32 xs]] => some (key (g xs), none)
  | _ => none
theorem Fn.keyU {P : Program} {f : FuncId} {Γ : Env} {af : AFn} (F : Fn P f Γ af) {g : List Int → List Int}
    (h : ∀ f : Nat → Int, evFn Γ af [.agg [.ints .u8 32 (tab 32 f)]] ⟨16, []⟩ kV = some (key (g (tab 32 f)), ⟨0, []⟩)) : PureOk P f (keyO g) := by
  refine F.plain fun nid args hp r ha hr => ?_
  unfold keyO at hr
  split at hr
  · rename_i xs
    cases hr
    obtain ⟨⟨⟨hl, _⟩, _⟩, _⟩ := ha
    obtain ⟨k, rfl⟩ := tab_of hl
    exact ⟨rfl, rfl, rfl, h k⟩
  · cases hr
theorem clamp_pure {P : Program} {f : FuncId} {Γ : Env} (F : Fn P f Γ af_curve_Clamp) : PureOk P f (keyO clampL) := F.keyU fun k => by kernel_rfl
def inl (Γ : Env) (af : AFn) : Orc := .full fun args h κ => evFn Γ af args h κ
structure L4 where
  x2 : List Int
  z2 : List Int
  x3 : List Int
  z3 : List Int
def ladSwap (b : Int) (s : L4) : L4 := ⟨List.zipWith (swA b) s.x2 s.x3, List.zipWith (swA b) s.z2 s.z3, List.zipWith (swB b) s.x2 s.x3, List.zipWith (swB b) s.z2 s.z3⟩
def ladGo (x1 : List Int) (s : L4) : L4 :=
  let a := addL s.x2 s.z2
  let b := subL s.x2 s.z2
  let c := addL s.x3 s.z3
  let d := subL s.x3 s.z3
  let aa := sqL a
  let bb := sqL b
  let e := subL aa bb
  let da := mulL d a
  let cb := mulL c b
  ⟨mulL aa bb, mulL e (addL aa (mulL e (ofL (w64 121665)))), sqL (addL da cb), mulL x1 (sqL (subL da cb))⟩
def bitL (ks : List Int) (n : Nat) : Int := IntKind.i64.wrap (bw .and .u8 ((ks.getD (n / 8) 0).fdiv (2 ^ (n % 8))) 1)
def ladStep (x1 : List Int) (b : Int) (s : L4) : L4 := ladSwap b (ladGo x1 (ladSwap b s))
def ladL (ks us : List Int) : Nat → L4
  | 0 => ⟨ofL 1, ofL 0, fromL us, ofL 1⟩
  | n + 1 => ladStep (fromL us) (bitL (clampL ks) (254 - n)) (ladL ks us n)
def xL (ks us : List Int) : List Int := bytesL (mulL (ladL ks us 255).x2 (invL (ladL ks us 255).z2))
def keyO2 (g : List Int → List Int → List Int) (_ : Nat) (args : List AV) (_ : Am.Heap) : Option (AV × Option Blk) :=
  match args with
  | [.agg [.ints .u8 32 xs], .agg [.ints .u8 32 ys]] => some (key (g xs ys), none)
  | _ => none
theorem Fn.keyB {P : Program} {f : FuncId} {Γ : Env} {af : AFn} (F : Fn P f Γ af) {g : List Int → List Int → List Int}
    (h : ∀ f g' : Nat → Int, evFn Γ af [.agg [.ints .u8 32 (tab 32 f)], .agg [.ints .u8 32 (tab 32 g')]] ⟨16, []⟩ kV = some (key (g (tab 32 f) (tab 32 g')), ⟨0, []⟩)) : PureOk P f (keyO2 g) := by
  refine F.plain fun nid args hp r ha hr => ?_
  unfold keyO2 at hr
  split at hr
  · rename_i xs ys
    cases hr
    obtain ⟨⟨⟨hl, _⟩, _⟩, ⟨⟨hl', _⟩, _⟩, _⟩ := ha
    obtain ⟨k, rfl⟩ := tab_of hl
    obtain ⟨k', rfl⟩ := tab_of hl'
    exact ⟨rfl, rfl, rfl, h k k'⟩
  · cases hr
def G7 : Env := envAdd id_field_Elem_Inv (.pure (unO invL)) (envAdd id_curve_Clamp (.pure (keyO clampL)) G6)
def G7s : Env := envAdd id_curve_ladder_sums (inl G7 af_curve_ladder_sums) (envAdd id_field_Elem_Times (.pure timesO) G7)
def G8 : Env := envAdd id_curve_ladder_swap (inl G7s af_curve_ladder_swap) (envAdd id_curve_ladder_step (inl G7s af_curve_ladder_step) G7s)
theorem ev_jumps (Γ : Env) (f l : Nat) (cn : Option Canon) (c r : ACode) (st : St) (κ : Kont) : ev Γ (.jumps f l cn c r) st κ = ev Γ c st (kJump cn l (fun s => jumpK cn l (ev Γ r) f s κ) κ) := rfl
theorem ev_seq (Γ : Env) (cn : Option Canon) (a b : ACode) (st : St) (κ : Kont) : ev Γ (.seq cn a b) st κ = ev Γ a st (kSeq Γ cn b κ) := rfl
theorem evFn_eq (Γ : Env) (fn : AFn) (args : List AV) (h : Am.Heap) (κ : AV → Am.Heap → Option Res) : evFn Γ fn args h κ = ev Γ fn.code ⟨args ++ List.replicate (fn.ntmps - args.length) .undef, h⟩ (kFn fn.results κ) := rfl
def mkTF (l : List (Nat × AV)) : Nat → Nat → List AV
  | _, 0 => []
  | i, n + 1 => (match l with
    | [] => .undef :: mkTF [] (i + 1) n
    | (j, v) :: r => if i = j then v :: mkTF r (i + 1) n else .undef :: mkTF ((j, v) :: r) (i + 1) n)
def mkT (n : Nat) (l : List (Nat × AV)) : List AV := mkTF l 0 n
def pt (id : Nat) : AV := .ptr id 0 0 0 0
def xCn : Option Canon := some ⟨[], [2,4,5,6,7], [], [16,18,19,340], 468⟩
def xInit : ACode := match af_curve_X.code with | .seq _ a _ => a | c => c
def xHead : ACode := match af_curve_X.code with | .seq _ _ (.jumps _ _ _ c _) => c | c => c
def xRest : ACode := match af_curve_X.code with | .seq _ _ (.jumps _ _ _ _ r) => r | c => c
def afX : AFn := ⟨52, [.cell 4 true 32], .seq none xInit (.jumps 1000 0 xCn xHead xRest)⟩
def cel (id : Nat) (l : List AV) : Cell := ⟨id, false, .segs l⟩
def xSt (i : Int) (ks x1 : List Int) (s : L4) : St :=
  ⟨mkT 52 [(2, pt 16), (4, pt 18), (5, pt 19), (6, pt 340), (7, .int .i64 i)],
   ⟨468, [cel 16 [.ints .u8 32 ks], cel 18 [.ints .u8 32 (List.replicate 32 0)], cel 19 [.ints .u64 5 x1], cel 340 [.ints .u64 5 s.x2, .ints .u64 5 s.z2, .ints .u64 5 s.x3, .ints .u64 5 s.z3]]⟩⟩
def w63 (n : Int) : Int := IntKind.i64.wrap n
def xEnd (s : L4) : List Int := bytesL (mulL s.x2 (invL s.z2))
def xK : Kont := kFn [.cell 4 true 32] kV
theorem xStep (L : St → Option Res) (i : Int) (ks x1 : List Int) (s : L4) : ev G8 xRest (xSt i ks x1 s) (kJump xCn 0 L xK) =
    if 0 ≤ w63 (i.tdiv 8) ∧ w63 (i.tdiv 8) < ((32 : Nat) : Int) then (ks[(w63 (i.tdiv 8)).toNat]?).bind fun c =>
      if i.tmod 8 < 0 then none else
      bif decide (w63 (i - 1) ≥ 0) then L (xSt (w63 (i - 1)) ks x1 (ladStep x1 (w63 (bw .and .u8 (c.fdiv (2 ^ (min (i.tmod 8).toNat IntKind.u8.bits))) 1)) s))
      else some (key (xEnd (ladStep x1 (w63 (bw .and .u8 (c.fdiv (2 ^ (min (i.tmod 8).toNat IntKind.u8.bits))) 1)) s)), ⟨0, []⟩)
    else none := by kernel_rfl
theorem w63_id {n : Int} (h0 : -9223372036854775808 ≤ n) (h1 : n < 9223372036854775808) : w63 n = n := by
  simp only [w63, IntKind.wrap, IntKind.bits, IntKind.signed]
  have e : ((2 : Int) ^ 64) = 18446744073709551616 := by decide
  have e2 : ((2 : Int) ^ (64 - 1)) = 9223372036854775808 := by decide
  simp only [e, e2, Bool.true_and, decide_eq_true_eq, ge_iff_le]
  split <;> omega
def ladFrom (ks x1 : List Int) : Nat → L4 → L4
  | 0, s => s
  | n + 1, s => ladFrom ks x1 n (ladStep x1 (bitL ks n) s)
theorem bitL_eq (ks : List Int) (n : Nat) (c : Int) (hc : ks[n / 8]? = some c) : w63 (bw .and .u8 (c.fdiv (2 ^ (min ((n : Int).tmod 8).toNat IntKind.u8.bits))) 1) = bitL ks n := by
  have h1 : ((n : Int).tmod 8).toNat = n % 8 := by
    have : ((n : Int).tmod 8) = ((n % 8 : Nat) : Int) := rfl
    rw [this]; rfl
  have h2 : min (n % 8) IntKind.u8.bits = n % 8 := by simp only [IntKind.bits]; omega
  rw [h1, h2, bitL, List.getD_eq_getElem?_getD, hc]
  rfl
theorem xLoop (ks x1 : List Int) (hk : ks.length = 32) : ∀ n m (s : L4), n < 255 → n < m → jumpK xCn 0 (ev G8 xRest) m (xSt n ks x1 s) xK = some (key (xEnd (ladFrom ks x1 (n + 1) s)), ⟨0, []⟩) := by
  intro n
  induction n with
  | zero =>
    intro m s _ hm
    obtain ⟨m, rfl⟩ : ∃ k, m = k + 1 := ⟨m - 1, by omega⟩
    refine (xStep (fun s => jumpK xCn 0 (ev G8 xRest) m s xK) 0 ks x1 s).trans ?_
    obtain ⟨c, hc⟩ : ∃ c, ks[0]? = some c := ⟨_, List.getElem?_eq_getElem (by omega)⟩
    rw [if_pos (by decide), show (w63 (Int.tdiv 0 8)).toNat = 0 by decide, hc]
    simp only [Option.bind_some]
    rw [if_neg (by decide), show (decide (w63 (0 - 1) ≥ 0)) = false by decide, cond_false]
    have hb : w63 (bw .and .u8 (c.fdiv (2 ^ (min ((0 : Int).tmod 8).toNat IntKind.u8.bits))) 1) = bitL ks 0 := bitL_eq ks 0 c hc
    rw [hb]
    rfl
  | succ n ih =>
    intro m s hn hm
    obtain ⟨m, rfl⟩ : ∃ k, m = k + 1 := ⟨m - 1, by omega⟩
    refine (xStep (fun s => jumpK xCn 0 (ev G8 xRest) m s xK) ((n + 1 : Nat) : Int) ks x1 s).trans ?_
    have hd : ((n + 1 : Nat) : Int).tdiv 8 = (((n + 1) / 8 : Nat) : Int) := rfl
    have hmod : ((n + 1 : Nat) : Int).tmod 8 = (((n + 1) % 8 : Nat) : Int) := rfl
    obtain ⟨c, hc⟩ : ∃ c, ks[(n + 1) / 8]? = some c := ⟨_, List.getElem?_eq_getElem (by omega)⟩
    have hw : w63 (((n + 1) / 8 : Nat) : Int) = (((n + 1) / 8 : Nat) : Int) := w63_id (by omega) (by omega)
    have hp : w63 (((n + 1 : Nat) : Int) - 1) = (n : Int) := by rw [w63_id (by omega) (by omega)]; omega
    have hb := bitL_eq ks (n + 1) c hc
    rw [hmod] at hb
    rw [hd, hw, hmod, if_pos (by omega), Int.toNat_natCast, hc]
    simp only [Option.bind_some]
    rw [if_neg (by omega), hp, hb, show (decide ((n : Int) ≥ 0)) = true by simp, cond_true]
    rw [ih m _ (by omega) (by omega)]
    rfl
theorem ladFrom_eq (ks us : List Int) : ∀ n m, n + m = 255 → ladFrom (clampL ks) (fromL us) n (ladL ks us m) = ladL ks us 255
  | 0, m, h => by rw [show m = 255 by omega]; rfl
  | n + 1, m, h => by
    have := ladFrom_eq ks us n (m + 1) (by omega)
    rw [← this]
    simp only [ladFrom, ladL]
    rw [show 254 - m = n by omega]
theorem kSeq_normal (Γ : Env) (b : ACode) (κ : Kont) (st : St) : kSeq Γ none b κ .normal st = ev Γ b st κ := rfl
theorem xPre (f g : Nat → Int) (κ : Kont) : ev G8 xInit ⟨[.agg [.ints .u8 32 (tab 32 f)], .agg [.ints .u8 32 (tab 32 g)]] ++ List.replicate 50 .undef, ⟨16, []⟩⟩ κ =
    κ .normal ⟨mkT 52 [(0, .agg [.ints .u8 32 (tab 32 f)]), (1, .agg [.ints .u8 32 (tab 32 g)]), (2, pt 16), (3, pt 17), (4, pt 18)], ⟨19, [cel 16 [.ints .u8 32 (tab 32 f)], cel 17 [.ints .u8 32 (tab 32 g)], cel 18 [.ints .u8 32 (List.replicate 32 0)]]⟩⟩ := by kernel_rfl
theorem xFirst (f g : Nat → Int) (L : St → Option Res) : ev G8 xHead ⟨mkT 52 [(0, .agg [.ints .u8 32 (tab 32 f)]), (1, .agg [.ints .u8 32 (tab 32 g)]), (2, pt 16), (3, pt 17), (4, pt 18)], ⟨19, [cel 16 [.ints .u8 32 (tab 32 f)], cel 17 [.ints .u8 32 (tab 32 g)], cel 18 [.ints .u8 32 (List.replicate 32 0)]]⟩⟩ (kJump xCn 0 L xK) =
    L (xSt 253 (clampL (tab 32 f)) (fromL (tab 32 g)) (ladL (tab 32 f) (tab 32 g) 1)) := by kernel_rfl
theorem x_run (f g : Nat → Int) : evFn G8 afX [.agg [.ints .u8 32 (tab 32 f)], .agg [.ints .u8 32 (tab 32 g)]] ⟨16, []⟩ kV = some (key (xL (tab 32 f) (tab 32 g)), ⟨0, []⟩) := by
  rw [evFn_eq]
  refine (ev_seq ..).trans ?_
  refine (xPre f g _).trans ?_
  refine (kSeq_normal ..).trans ?_
  refine (ev_jumps ..).trans ?_
  refine (xFirst f g _).trans ?_
  have hl : (clampL (tab 32 f)).length = 32 := by simp only [clampL, List.length_set]; rfl
  refine (xLoop _ _ hl 253 1000 _ (by omega) (by omega)).trans ?_
  rw [ladFrom_eq _ _ 254 1 rfl]
  rfl
theorem x_pure {P : Program} {f : FuncId} (F : Fn P f G8 afX) : PureOk P f (keyO2 xL) := F.keyB x_run
end Go.Am
