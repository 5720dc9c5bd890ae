/- RatchetSeals: part 19 of 50 of its proof. -/
import Derived.Test.YtmkefajojokkfaaGreatD17
import Derived.Test.YtmkefajojokkfaaGreatD16
set_option linter.unusedVariables false
set_option linter.unusedSimpArgs false
namespace Go.Am
set_option linter.unusedSimpArgs false
set_option maxRecDepth 100000
theorem ev_block (Γ : Env) (id : Nat) (cn : Option Canon) (c : ACode) (st : St) (κ : Kont) : ev Γ (.block id cn c) st κ = ev Γ c st (kBlock id cn κ) := rfl
theorem ev_loop (Γ : Env) (f : Nat) (cn : Option Canon) (c : ACode) (st : St) (κ : Kont) : ev Γ (.loop f cn c) st κ = canonK cn st fun s => loopK cn (ev Γ c) f s κ := rfl
def wHeadSt (s : ByteArray) : St := ⟨mkT 41 [(0, .str s), (2, .nils), (3, .nils), (7, .str s), (8, pt 16)], ⟨17, [⟨16, false, .iter s 0⟩]⟩⟩
def wH1 : ACode := match af_sha_words.code with | .seq _ a _ => a | c => c
def wH2 : ACode := match af_sha_words.code with | .seq _ _ (.seq _ b _) => b | c => c
def wH3 : ACode := match af_sha_words.code with | .seq _ _ (.seq _ _ (.seq _ (.seq _ c _) _)) => c | c => c
def afWords : AFn := ⟨41, [.t 2], .seq none wH1 (.seq none wH2 (.seq none (.seq none wH3 (.block 0 none (.loop 1000 wCn wBody))) wTail))⟩
theorem w_pre (Γ : Env) (s : ByteArray) (κ : Kont) : ev Γ wH1 ⟨[AV.str s] ++ List.replicate 40 .undef, ⟨16, []⟩⟩ (kSeq Γ none wH2 (kSeq Γ none wH3 κ)) = κ .normal (wHeadSt s) := by kernel_rfl
theorem w_canon (s : ByteArray) (L : St → Option Res) : canonK wCn (wHeadSt s) L = L (wSt s 0 0 []) := by kernel_rfl
theorem w_fin (Γ : Env) (nid n : Nat) (l : List Int) (b : Bool) (s : ByteArray) (pos : Nat) : kBlock 0 none (kSeq Γ none wTail (kFn [.t 2] (kOut none nid))) (.exit 0) ⟨mkT 41 [(3, .slice 17 0 0 n 0 none), (8, pt 16), (9, .tuple [.bool false]), (10, .bool b)], ⟨18, [⟨16, false, .iter s pos⟩, cel 17 [.ints .u32 n l]]⟩⟩ =
    some (.isl .u32 ((l.drop 0).take n), ⟨0, []⟩) := by kernel_rfl
theorem words_from (Γ : Env) (nid : Nat) (s : ByteArray) (n : Nat) (l : List Int) (pos : Nat) (hl : l.length = n) (h : ∀ κ, loopK wCn (ev Γ wBody) 1000 (wSt s 0 0 []) κ = κ (.exit 0) ⟨mkT 41 [(3, .slice 17 0 0 n 0 none), (8, pt 16), (9, .tuple [.bool false]), (10, .bool false)], ⟨18, [⟨16, false, .iter s pos⟩, cel 17 [.ints .u32 n l]]⟩⟩) :
    evFn Γ afWords [.str s] ⟨16, []⟩ (kOut none nid) = some (.isl .u32 l, ⟨0, []⟩) := by
  refine (evFn_eq ..).trans ?_
  refine (ev_seq ..).trans ?_
  have e : kSeq Γ none (.seq none wH2 (.seq none (.seq none wH3 (.block 0 none (.loop 1000 wCn wBody))) wTail)) (kFn [.t 2] (kOut none nid)) = kSeq Γ none wH2 (kSeq Γ none wH3 (kSeq Γ none (.block 0 none (.loop 1000 wCn wBody)) (kSeq Γ none wTail (kFn [.t 2] (kOut none nid))))) := by
    funext e st
    cases e <;> rfl
  rw [show kFn afWords.results (kOut none nid) = kFn [.t 2] (kOut none nid) from rfl, e]
  refine (w_pre Γ s _).trans ?_
  refine (kSeq_normal ..).trans ?_
  refine (ev_block ..).trans ?_
  refine (ev_loop ..).trans ?_
  rw [w_canon, h, w_fin]
  simp [← hl]
set_option maxRecDepth 100000
theorem words_run1 (Γ : Env) (nid : Nat) : evFn Γ afWords [.str digitsB] ⟨16, []⟩ (kOut none nid) = some (.isl .u32 shaK, ⟨0, []⟩) := by
  refine words_from Γ nid digitsB 64 (shaK.take 64) 512 rfl fun κ => ?_
  refine (w_chunk0 Γ κ 968).trans ?_
  refine (w_chunk1 Γ κ 936).trans ?_
  refine (w_chunk2 Γ κ 904).trans ?_
  refine (w_chunk3 Γ κ 872).trans ?_
  refine (w_chunk4 Γ κ 840).trans ?_
  refine (w_chunk5 Γ κ 808).trans ?_
  refine (w_chunk6 Γ κ 776).trans ?_
  refine (w_chunk7 Γ κ 744).trans ?_
  refine (w_chunk8 Γ κ 712).trans ?_
  refine (w_chunk9 Γ κ 680).trans ?_
  refine (w_chunk10 Γ κ 648).trans ?_
  refine (w_chunk11 Γ κ 616).trans ?_
  refine (w_chunk12 Γ κ 584).trans ?_
  refine (w_chunk13 Γ κ 552).trans ?_
  refine (w_chunk14 Γ κ 520).trans ?_
  refine (w_chunk15 Γ κ 488).trans ?_
  exact w_end Γ κ 487
theorem words_run2 (Γ : Env) (nid : Nat) : evFn Γ afWords [.str startB] ⟨16, []⟩ (kOut none nid) = some (.isl .u32 shaH, ⟨0, []⟩) := by
  refine words_from Γ nid startB 8 (shaH.take 8) 64 rfl fun κ => ?_
  refine (v_chunk0 Γ κ 968).trans ?_
  refine (v_chunk1 Γ κ 936).trans ?_
  exact v_end Γ κ 935
theorem words_pure {P : Program} {f : FuncId} {Γ : Env} (F : Fn P f Γ afWords) : PureOk P f wordsO := by
  refine F.lit [.plain] none fun nid args hp r ha hr => ?_
  unfold wordsO at hr
  split at hr <;> try (cases hr; done)
  rename_i s
  have ex : ∀ {a b : ByteArray}, a.data = b.data → a = b := fun {a b} h => by cases a; cases b; cases h; rfl
  split at hr
  · rename_i h
    obtain rfl := ex h
    cases hr
    exact ⟨[.str digitsB], [], rfl, by simp, words_run1 Γ nid⟩
  · split at hr <;> try (cases hr; done)
    rename_i h
    obtain rfl := ex h
    cases hr
    exact ⟨[.str startB], [], rfl, by simp, words_run2 Γ nid⟩
set_option maxRecDepth 100000
def turnS (x : Int) (n : Nat) : Int := bw .or .u32 (x.fdiv (2 ^ n)) (w32 (x * 2 ^ (32 - n)))
def turnO (_ : Nat) (args : List AV) (_ : Am.Heap) : Option (AV × Option Blk) :=
  match args with
  | [.int .u32 x, .int .i64 (.ofNat n)] => if n ≤ 31 then some (.int .u32 (turnS x n), none) else none
  | _ => none
theorem turn_0 (Γ : Env) (x : Int) : evFn Γ af_sha_turn [.int .u32 x, .int .i64 (.ofNat 0)] ⟨16, []⟩ kV = some (.int .u32 (turnS x 0), ⟨0, []⟩) := by kernel_rfl
theorem turn_1 (Γ : Env) (x : Int) : evFn Γ af_sha_turn [.int .u32 x, .int .i64 (.ofNat 1)] ⟨16, []⟩ kV = some (.int .u32 (turnS x 1), ⟨0, []⟩) := by kernel_rfl
theorem turn_2 (Γ : Env) (x : Int) : evFn Γ af_sha_turn [.int .u32 x, .int .i64 (.ofNat 2)] ⟨16, []⟩ kV = some (.int .u32 (turnS x 2), ⟨0, []⟩) := by kernel_rfl
theorem turn_3 (Γ : Env) (x : Int) : evFn Γ af_sha_turn [.int .u32 x, .int .i64 (.ofNat 3)] ⟨16, []⟩ kV = some (.int .u32 (turnS x 3), ⟨0, []⟩) := by kernel_rfl
theorem turn_4 (Γ : Env) (x : Int) : evFn Γ af_sha_turn [.int .u32 x, .int .i64 (.ofNat 4)] ⟨16, []⟩ kV = some (.int .u32 (turnS x 4), ⟨0, []⟩) := by kernel_rfl
theorem turn_5 (Γ : Env) (x : Int) : evFn Γ af_sha_turn [.int .u32 x, .int .i64 (.ofNat 5)] ⟨16, []⟩ kV = some (.int .u32 (turnS x 5), ⟨0, []⟩) := by kernel_rfl
theorem turn_6 (Γ : Env) (x : Int) : evFn Γ af_sha_turn [.int .u32 x, .int .i64 (.ofNat 6)] ⟨16, []⟩ kV = some (.int .u32 (turnS x 6), ⟨0, []⟩) := by kernel_rfl
theorem turn_7 (Γ : Env) (x : Int) : evFn Γ af_sha_turn [.int .u32 x, .int .i64 (.ofNat 7)] ⟨16, []⟩ kV = some (.int .u32 (turnS x 7), ⟨0, []⟩) := by kernel_rfl
theorem turn_8 (Γ : Env) (x : Int) : evFn Γ af_sha_turn [.int .u32 x, .int .i64 (.ofNat 8)] ⟨16, []⟩ kV = some (.int .u32 (turnS x 8), ⟨0, []⟩) := by kernel_rfl
theorem turn_9 (Γ : Env) (x : Int) : evFn Γ af_sha_turn [.int .u32 x, .int .i64 (.ofNat 9)] ⟨16, []⟩ kV = some (.int .u32 (turnS x 9), ⟨0, []⟩) := by kernel_rfl
theorem turn_10 (Γ : Env) (x : Int) : evFn Γ af_sha_turn [.int .u32 x, .int .i64 (.ofNat 10)] ⟨16, []⟩ kV = some (.int .u32 (turnS x 10), ⟨0, []⟩) := by kernel_rfl
theorem turn_11 (Γ : Env) (x : Int) : evFn Γ af_sha_turn [.int .u32 x, .int .i64 (.ofNat 11)] ⟨16, []⟩ kV = some (.int .u32 (turnS x 11), ⟨0, []⟩) := by kernel_rfl
theorem turn_12 (Γ : Env) (x : Int) : evFn Γ af_sha_turn [.int .u32 x, .int .i64 (.ofNat 12)] ⟨16, []⟩ kV = some (.int .u32 (turnS x 12), ⟨0, []⟩) := by kernel_rfl
theorem turn_13 (Γ : Env) (x : Int) : evFn Γ af_sha_turn [.int .u32 x, .int .i64 (.ofNat 13)] ⟨16, []⟩ kV = some (.int .u32 (turnS x 13), ⟨0, []⟩) := by kernel_rfl
theorem turn_14 (Γ : Env) (x : Int) : evFn Γ af_sha_turn [.int .u32 x, .int .i64 (.ofNat 14)] ⟨16, []⟩ kV = some (.int .u32 (turnS x 14), ⟨0, []⟩) := by kernel_rfl
theorem turn_15 (Γ : Env) (x : Int) : evFn Γ af_sha_turn [.int .u32 x, .int .i64 (.ofNat 15)] ⟨16, []⟩ kV = some (.int .u32 (turnS x 15), ⟨0, []⟩) := by kernel_rfl
theorem turn_16 (Γ : Env) (x : Int) : evFn Γ af_sha_turn [.int .u32 x, .int .i64 (.ofNat 16)] ⟨16, []⟩ kV = some (.int .u32 (turnS x 16), ⟨0, []⟩) := by kernel_rfl
theorem turn_17 (Γ : Env) (x : Int) : evFn Γ af_sha_turn [.int .u32 x, .int .i64 (.ofNat 17)] ⟨16, []⟩ kV = some (.int .u32 (turnS x 17), ⟨0, []⟩) := by kernel_rfl
theorem turn_18 (Γ : Env) (x : Int) : evFn Γ af_sha_turn [.int .u32 x, .int .i64 (.ofNat 18)] ⟨16, []⟩ kV = some (.int .u32 (turnS x 18), ⟨0, []⟩) := by kernel_rfl
theorem turn_19 (Γ : Env) (x : Int) : evFn Γ af_sha_turn [.int .u32 x, .int .i64 (.ofNat 19)] ⟨16, []⟩ kV = some (.int .u32 (turnS x 19), ⟨0, []⟩) := by kernel_rfl
theorem turn_20 (Γ : Env) (x : Int) : evFn Γ af_sha_turn [.int .u32 x, .int .i64 (.ofNat 20)] ⟨16, []⟩ kV = some (.int .u32 (turnS x 20), ⟨0, []⟩) := by kernel_rfl
theorem turn_21 (Γ : Env) (x : Int) : evFn Γ af_sha_turn [.int .u32 x, .int .i64 (.ofNat 21)] ⟨16, []⟩ kV = some (.int .u32 (turnS x 21), ⟨0, []⟩) := by kernel_rfl
theorem turn_22 (Γ : Env) (x : Int) : evFn Γ af_sha_turn [.int .u32 x, .int .i64 (.ofNat 22)] ⟨16, []⟩ kV = some (.int .u32 (turnS x 22), ⟨0, []⟩) := by kernel_rfl
theorem turn_23 (Γ : Env) (x : Int) : evFn Γ af_sha_turn [.int .u32 x, .int .i64 (.ofNat 23)] ⟨16, []⟩ kV = some (.int .u32 (turnS x 23), ⟨0, []⟩) := by kernel_rfl
theorem turn_24 (Γ : Env) (x : Int) : evFn Γ af_sha_turn [.int .u32 x, .int .i64 (.ofNat 24)] ⟨16, []⟩ kV = some (.int .u32 (turnS x 24), ⟨0, []⟩) := by kernel_rfl
theorem turn_25 (Γ : Env) (x : Int) : evFn Γ af_sha_turn [.int .u32 x, .int .i64 (.ofNat 25)] ⟨16, []⟩ kV = some (.int .u32 (turnS x 25), ⟨0, []⟩) := by kernel_rfl
theorem turn_26 (Γ : Env) (x : Int) : evFn Γ af_sha_turn [.int .u32 x, .int .i64 (.ofNat 26)] ⟨16, []⟩ kV = some (.int .u32 (turnS x 26), ⟨0, []⟩) := by kernel_rfl
theorem turn_27 (Γ : Env) (x : Int) : evFn Γ af_sha_turn [.int .u32 x, .int .i64 (.ofNat 27)] ⟨16, []⟩ kV = some (.int .u32 (turnS x 27), ⟨0, []⟩) := by kernel_rfl
theorem turn_28 (Γ : Env) (x : Int) : evFn Γ af_sha_turn [.int .u32 x, .int .i64 (.ofNat 28)] ⟨16, []⟩ kV = some (.int .u32 (turnS x 28), ⟨0, []⟩) := by kernel_rfl
theorem turn_29 (Γ : Env) (x : Int) : evFn Γ af_sha_turn [.int .u32 x, .int .i64 (.ofNat 29)] ⟨16, []⟩ kV = some (.int .u32 (turnS x 29), ⟨0, []⟩) := by kernel_rfl
theorem turn_30 (Γ : Env) (x : Int) : evFn Γ af_sha_turn [.int .u32 x, .int .i64 (.ofNat 30)] ⟨16, []⟩ kV = some (.int .u32 (turnS x 30), ⟨0, []⟩) := by kernel_rfl
theorem turn_31 (Γ : Env) (x : Int) : evFn Γ af_sha_turn [.int .u32 x, .int .i64 (.ofNat 31)] ⟨16, []⟩ kV = some (.int .u32 (turnS x 31), ⟨0, []⟩) := by kernel_rfl
theorem turn_run (Γ : Env) (x : Int) : ∀ n : Nat, n < 32 → evFn Γ af_sha_turn [.int .u32 x, .int .i64 (.ofNat n)] ⟨16, []⟩ kV = some (.int .u32 (turnS x n), ⟨0, []⟩)
  | 0, _ => turn_0 Γ x
  | 1, _ => turn_1 Γ x
  | 2, _ => turn_2 Γ x
  | 3, _ => turn_3 Γ x
  | 4, _ => turn_4 Γ x
  | 5, _ => turn_5 Γ x
  | 6, _ => turn_6 Γ x
  | 7, _ => turn_7 Γ x
  | 8, _ => turn_8 Γ x
  | 9, _ => turn_9 Γ x
  | 10, _ => turn_10 Γ x
  | 11, _ => turn_11 Γ x
  | 12, _ => turn_12 Γ x
  | 13, _ => turn_13 Γ x
  | 14, _ => turn_14 Γ x
  | 15, _ => turn_15 Γ x
  | 16, _ => turn_16 Γ x
  | 17, _ => turn_17 Γ x
  | 18, _ => turn_18 Γ x
  | 19, _ => turn_19 Γ x
  | 20, _ => turn_20 Γ x
  | 21, _ => turn_21 Γ x
  | 22, _ => turn_22 Γ x
  | 23, _ => turn_23 Γ x
  | 24, _ => turn_24 Γ x
  | 25, _ => turn_25 Γ x
  | 26, _ => turn_26 Γ x
  | 27, _ => turn_27 Γ x
  | 28, _ => turn_28 Γ x
  | 29, _ => turn_29 Γ x
  | 30, _ => turn_30 Γ x
  | 31, _ => turn_31 Γ x
  | n + 32, h => absurd h (by omega)
theorem turn_pure {P : Program} {f : FuncId} {Γ : Env} (F : Fn P f Γ af_sha_turn) : PureOk P f turnO := by
  refine F.plain fun nid args hp r ha hr => ?_
  unfold turnO at hr
  split at hr <;> try (cases hr; done)
  rename_i x n
  split at hr <;> try (cases hr; done)
  rename_i hn
  cases hr
  exact ⟨rfl, rfl, rfl, turn_run Γ x n (by omega)⟩
def G9 : Env := envAdd id_sha_turn (.pure turnO) G8
def sTop : ACode := af_sha_Hash_step.code
def sA : ACode := match sTop with | .seq _ a _ => a | c => c
def sL1 : ACode := match sTop with | .seq _ _ (.seq _ (.seq _ _ (.block _ _ (.loop _ _ l))) _) => l | c => c
def sI1 : ACode := match sTop with | .seq _ _ (.seq _ (.seq _ i _) _) => i | c => c
def sI2 : ACode := match sTop with | .seq _ _ (.seq _ _ (.seq _ (.seq _ i _) _)) => i | c => c
def sL2 : ACode := match sTop with | .seq _ _ (.seq _ _ (.seq _ (.seq _ _ (.block _ _ (.loop _ _ l))) _)) => l | c => c
def sB : ACode := match sTop with | .seq _ _ (.seq _ _ (.seq _ _ (.seq _ b _))) => b | c => c
def sI3 : ACode := match sTop with | .seq _ _ (.seq _ _ (.seq _ _ (.seq _ _ (.seq _ (.seq _ i _) _)))) => i | c => c
def sL3 : ACode := match sTop with | .seq _ _ (.seq _ _ (.seq _ _ (.seq _ _ (.seq _ (.seq _ _ (.block _ _ (.loop _ _ l))) _)))) => l | c => c
def sI4 : ACode := match sTop with | .seq _ _ (.seq _ _ (.seq _ _ (.seq _ _ (.seq _ _ (.seq _ i _))))) => i | c => c
def sL4 : ACode := match sTop with | .seq _ _ (.seq _ _ (.seq _ _ (.seq _ _ (.seq _ _ (.seq _ _ (.block _ _ (.loop _ _ l))))))) => l | c => c
def hashB (st rest : List Int) (n : Int) : List AV := [.ints .u32 8 st, .isl .u32 shaK, .ints .u8 64 rest, .int .i64 n]
def sSt1 (v : AV) (bl : List Cell) (st rest : List Int) (n i : Int) (ws : List Int) : St :=
  ⟨mkT 232 [(0, pt 0), (1, v), (4, pt 16), (23, .int .i64 i)], ⟨17, [cel 0 (hashB st rest n)] ++ bl ++ [cel 16 [.ints .u32 64 ws]]⟩⟩
def vw (id n : Nat) (xs : List Int) : Cell := ⟨id, true, .segs [.ints .u8 n xs]⟩
def sCn1a : Option Canon := some ⟨[], [0,1,4,23], [], [0,1,16], 17⟩
def sCn1b : Option Canon := some ⟨[], [0,1,4,23], [], [0,16], 17⟩
def sCn2 : Option Canon := some ⟨[], [0,4,6], [], [0,16], 17⟩
def sSt2 (st rest : List Int) (n i : Int) (ws : List Int) : St :=
  ⟨mkT 232 [(0, pt 0), (4, pt 16), (6, .int .i64 i)], ⟨17, [cel 0 (hashB st rest n), cel 16 [.ints .u32 64 ws]]⟩⟩
def sCn3 : Option Canon := some ⟨[], [0,9,10,11,12,13,14,15,16,143,144], [], [0], 17⟩
def sSt3 (st rest : List Int) (n i : Int) (ws : List Int) (a b c d e f g h : Int) : St :=
  ⟨mkT 232 [(0, pt 0), (9, .int .u32 a), (10, .int .u32 b), (11, .int .u32 c), (12, .int .u32 d), (13, .int .u32 e), (14, .int .u32 f), (15, .int .u32 g), (16, .int .u32 h), (143, .agg [.ints .u32 64 ws]), (144, .int .i64 i)], ⟨17, [cel 0 (hashB st rest n)]⟩⟩
set_option maxRecDepth 100000
def shl32 (x : Int) (n : Nat) : Int := w32 (x * 2 ^ n)
def word4 (a b c d : Int) : Int := bw .or .u32 (bw .or .u32 (bw .or .u32 (shl32 (w32 a) 24) (shl32 (w32 b) 16)) (shl32 (w32 c) 8)) (w32 d)
def at? {β : Type} (q : Int) (n : Int) (xs : List Int) (k : Int → Option β) : Option β := if 0 ≤ q ∧ q < n then (xs[q.toNat]?).bind k else none
def atO? {β : Type} (q : Int) (n : Int) (o : Nat) (xs : List Int) (k : Int → Option β) : Option β := if 0 ≤ q ∧ q < n then (xs[o + q.toNat]?).bind k else none
def set? {β : Type} (q : Int) (n : Nat) (k : Option β) : Option β := if 0 ≤ q ∧ q < (n : Int) then (if q.toNat < n then k else none) else none
def sched (p q r s : Int) : Int :=
  w32 (w32 (w32 (r + s) + bw .xor .u32 (bw .xor .u32 (turnS p 7) (turnS p 18)) (p.fdiv (2 ^ 3))) + bw .xor .u32 (bw .xor .u32 (turnS q 17) (turnS q 19)) (q.fdiv (2 ^ 10)))
def xor32 (a b : Int) : Int := bw .xor .u32 a b
def and32 (a b : Int) : Int := bw .and .u32 a b
def or32 (a b : Int) : Int := bw .or .u32 a b
structure W8 where
  a : Int
  b : Int
  c : Int
  d : Int
  e : Int
  f : Int
  g : Int
  h : Int
def roundT (s : W8) (k x : Int) : Int :=
  w32 (w32 (w32 (w32 (s.h + xor32 (xor32 (turnS s.e 6) (turnS s.e 11)) (turnS s.e 25)) + xor32 s.g (and32 s.e (xor32 s.f s.g))) + k) + x)
def roundU (s : W8) : Int := w32 (xor32 (xor32 (turnS s.a 2) (turnS s.a 13)) (turnS s.a 22) + or32 (and32 s.a s.b) (and32 s.c (or32 s.a s.b)))
def roundS (s : W8) (k x : Int) : W8 := ⟨w32 (roundT s k x + roundU s), s.a, s.b, s.c, w32 (s.d + roundT s k x), s.e, s.f, s.g⟩
def sSt3' (st rest : List Int) (n i : Int) (ws : List Int) (s : W8) : St := sSt3 st rest n i ws s.a s.b s.c s.d s.e s.f s.g s.h
def sCn4 : Option Canon := some ⟨[], [0,215,216], [], [0], 17⟩
def sSt4 (st rest : List Int) (n i : Int) (s : List Int) : St := ⟨mkT 232 [(0, pt 0), (215, .agg [.ints .u32 8 s]), (216, .int .i64 i)], ⟨17, [cel 0 (hashB st rest n)]⟩⟩
theorem loopK_for {cn : Option Canon} {body : St → Kont → Option Res} {κ : Kont} (S : Nat → St) (N : Nat) (E : Option Res)
    (h : ∀ i, i < N → ∀ L, body (S i) (kLoop cn L κ) = L (S (i + 1))) (he : ∀ L, body (S N) (kLoop cn L κ) = E) : ∀ m, N < m → loopK cn body m (S 0) κ = E := by
  have key : ∀ k i, i + k = N → ∀ m, k < m → loopK cn body m (S i) κ = E := by
    intro k
    induction k with
    | zero =>
      intro i hi m hm
      obtain ⟨m, rfl⟩ : ∃ j, m = j + 1 := ⟨m - 1, by omega⟩
      rw [show i = N by omega]
      exact he fun s => loopK cn body m s κ
    | succ k ih =>
      intro i hi m hm
      obtain ⟨m, rfl⟩ : ∃ j, m = j + 1 := ⟨m - 1, by omega⟩
      refine (h i (by omega) fun s => loopK cn body m s κ).trans ?_
      exact ih (i + 1) (by omega) m (by omega)
  intro m hm
  exact key N 0 (by omega) m hm
theorem kBlock_exit (Γ : Env) (id : Nat) (R : ACode) (K : Kont) (st : St) : kBlock id none (kSeq Γ none R K) (.exit id) st = ev Γ R st K := by simp [kBlock, kSeq, canonK, canon]
def withT (j : Nat) (v : AV) (s : St) : St := ⟨s.t.set j v, s.h⟩
theorem s_round1a (L : St → Option Res) (κ : Kont) (st rest ws xs : List Int) (n i : Int) (len : Nat) : ev G9 sL1 (sSt1 (.slice 1 0 0 len 0 none) [vw 1 len xs] st rest n i ws) (kLoop sCn1a L κ) =
    bif decide (i < 16) then atO? (w63 (4 * i)) len 0 xs fun a => atO? (w63 (w63 (4 * i) + 1)) len 0 xs fun b => atO? (w63 (w63 (4 * i) + 2)) len 0 xs fun c => atO? (w63 (w63 (4 * i) + 3)) len 0 xs fun d =>
      set? i 64 (L (sSt1 (.slice 1 0 0 len 0 none) [vw 1 len xs] st rest n (w63 (i + 1)) (ws.set i.toNat (word4 a b c d))))
    else κ (.exit 0) (withT 24 (.bool false) (sSt1 (.slice 1 0 0 len 0 none) [vw 1 len xs] st rest n i ws)) := by kernel_rfl
theorem s_round1b (L : St → Option Res) (κ : Kont) (st rest ws : List Int) (n i : Int) : ev G9 sL1 (sSt1 (.slice 0 9 0 64 0 (some 64)) [] st rest n i ws) (kLoop sCn1b L κ) =
    bif decide (i < 16) then atO? (w63 (4 * i)) 64 0 rest fun a => atO? (w63 (w63 (4 * i) + 1)) 64 0 rest fun b => atO? (w63 (w63 (4 * i) + 2)) 64 0 rest fun c => atO? (w63 (w63 (4 * i) + 3)) 64 0 rest fun d =>
      set? i 64 (L (sSt1 (.slice 0 9 0 64 0 (some 64)) [] st rest n (w63 (i + 1)) (ws.set i.toNat (word4 a b c d))))
    else κ (.exit 0) (withT 24 (.bool false) (sSt1 (.slice 0 9 0 64 0 (some 64)) [] st rest n i ws)) := by kernel_rfl
theorem s_round2 (L : St → Option Res) (κ : Kont) (st rest ws : List Int) (n i : Int) : ev G9 sL2 (sSt2 st rest n i ws) (kLoop sCn2 L κ) =
    bif decide (i < 64) then at? (w63 (i - 15)) 64 ws fun p => at? (w63 (i - 2)) 64 ws fun q => at? (w63 (i - 16)) 64 ws fun r => at? (w63 (i - 7)) 64 ws fun s =>
      set? i 64 (L (sSt2 st rest n (w63 (i + 1)) (ws.set i.toNat (sched p q r s))))
    else κ (.exit 2) (withT 63 (.bool false) (withT 62 (.int .i64 i) (sSt2 st rest n i ws))) := by kernel_rfl
theorem s_round3 (L : St → Option Res) (κ : Kont) (st rest ws : List Int) (n i : Int) (s : W8) : ev G9 sL3 (sSt3' st rest n i ws s) (kLoop sCn3 L κ) =
    bif decide (i < 64) then at? i 64 ws fun x => at? i 64 shaK fun k => L (sSt3' st rest n (w63 (i + 1)) ws (roundS s k x))
    else κ (.exit 4) (withT 145 (.bool false) (sSt3' st rest n i ws s)) := by kernel_rfl
theorem s_round4 (L : St → Option Res) (κ : Kont) (st rest ws : List Int) (n i : Int) : ev G9 sL4 (sSt4 st rest n i ws) (kLoop sCn4 L κ) =
    bif decide (i < 8) then at? i 8 ws fun x => at? i 8 st fun y => set? i 8 (L (sSt4 (st.set i.toNat (w32 (y + x))) rest n (w63 (i + 1)) ws))
    else κ (.exit 6) (withT 217 (.bool false) (sSt4 st rest n i ws)) := by kernel_rfl
set_option maxRecDepth 100000
def afStepOf (cn1 : Option Canon) : AFn := ⟨232, [], .seq none sA (.seq none (.seq none sI1 (.block 0 none (.loop 1000 cn1 sL1))) (.seq none (.seq none sI2 (.block 2 none (.loop 1000 sCn2 sL2))) (.seq none sB (.seq none (.seq none sI3 (.block 4 none (.loop 1000 sCn3 sL3))) (.seq none sI4 (.block 6 none (.loop 1000 sCn4 sL4)))))))⟩
def g0 (l : List Int) (i : Nat) : Int := l.getD i 0
def loadL (xs : List Int) : Nat → List Int
  | 0 => List.replicate 64 0
  | i + 1 => (loadL xs i).set i (word4 (g0 xs (4 * i)) (g0 xs (4 * i + 1)) (g0 xs (4 * i + 2)) (g0 xs (4 * i + 3)))
def schedL (xs : List Int) : Nat → List Int
  | 0 => loadL xs 16
  | i + 1 => (schedL xs i).set (16 + i) (sched (g0 (schedL xs i) (1 + i)) (g0 (schedL xs i) (14 + i)) (g0 (schedL xs i) i) (g0 (schedL xs i) (9 + i)))
def roundsL (ws : List Int) (s : W8) : Nat → W8
  | 0 => s
  | i + 1 => roundS (roundsL ws s i) (g0 shaK i) (g0 ws i)
def addW (st ws : List Int) : Nat → List Int
  | 0 => st
  | i + 1 => (addW st ws i).set i (w32 (g0 (addW st ws i) i + g0 ws i))
def toW8 (l : List Int) : W8 := ⟨g0 l 0, g0 l 1, g0 l 2, g0 l 3, g0 l 4, g0 l 5, g0 l 6, g0 l 7⟩
def ofW8 (s : W8) : List Int := [s.a, s.b, s.c, s.d, s.e, s.f, s.g, s.h]
def stepL (st xs : List Int) : List Int := addW st (ofW8 (roundsL (schedL xs 48) (toW8 st) 64)) 8
theorem loadL_len (xs : List Int) : ∀ i, (loadL xs i).length = 64
  | 0 => rfl
  | i + 1 => by simp only [loadL, List.length_set, loadL_len xs i]
theorem schedL_len (xs : List Int) : ∀ i, (schedL xs i).length = 64
  | 0 => loadL_len xs 16
  | i + 1 => by simp only [schedL, List.length_set, schedL_len xs i]
theorem addW_len (st ws : List Int) : ∀ i, (addW st ws i).length = st.length
  | 0 => rfl
  | i + 1 => by simp only [addW, List.length_set, addW_len st ws i]
theorem get_g0 {l : List Int} {i : Nat} (h : i < l.length) : l[i]? = some (g0 l i) := by simp [g0, List.getD_eq_getElem?_getD, h]
theorem w63_nat {n : Nat} (h : n < 9223372036854775808) : w63 (n : Int) = (n : Int) := w63_id (by omega) (by omega)
theorem at?_eq {β : Type} {q n : Int} {xs : List Int} {k : Int → Option β} (j : Nat) (h : q = (j : Int)) (h1 : (j : Int) < n) (h2 : j < xs.length) : at? q n xs k = k (g0 xs j) := by
  subst h
  unfold at?
  rw [if_pos ⟨by omega, h1⟩, Int.toNat_natCast, get_g0 h2]
  rfl
theorem atO?_eq {β : Type} {q n : Int} {o : Nat} {xs : List Int} {k : Int → Option β} (j : Nat) (h : q = (j : Int)) (h1 : (j : Int) < n) (h2 : o + j < xs.length) : atO? q n o xs k = k (g0 xs (o + j)) := by
  subst h
  unfold atO?
  rw [if_pos ⟨by omega, h1⟩, Int.toNat_natCast, get_g0 h2]
  rfl
theorem set?_eq {β : Type} {q : Int} {n : Nat} {k : Option β} (j : Nat) (h : q = (j : Int)) (h1 : j < n) : set? q n k = k := by
  subst h
  unfold set?
  rw [if_pos ⟨by omega, by omega⟩, Int.toNat_natCast, if_pos h1]
theorem w4 (i k : Nat) (h : i < 16) (hk : k < 4) : w63 (w63 (4 * (i : Int)) + (k : Int)) = ((4 * i + k : Nat) : Int) := by
  rw [show (4 * (i : Int)) = ((4 * i : Nat) : Int) by omega, w63_nat (by omega)]
  rw [show (((4 * i : Nat) : Int) + (k : Int)) = ((4 * i + k : Nat) : Int) by omega, w63_nat (by omega)]
theorem w4_0 (i : Nat) (h : i < 16) : w63 (4 * (i : Int)) = ((4 * i : Nat) : Int) := by
  rw [show (4 * (i : Int)) = ((4 * i : Nat) : Int) by omega, w63_nat (by omega)]
theorem wS (i : Nat) (h : i < 1000) : w63 ((i : Int) + 1) = ((i + 1 : Nat) : Int) := by
  rw [show ((i : Int) + 1) = ((i + 1 : Nat) : Int) by omega, w63_nat (by omega)]
theorem wSub (i k : Nat) (h : i < 1000) (hk : k ≤ i) : w63 ((i : Int) - (k : Int)) = ((i - k : Nat) : Int) := by
  rw [show ((i : Int) - (k : Int)) = ((i - k : Nat) : Int) by omega, w63_nat (by omega)]
theorem s_loop1a (κ : Kont) (st rest xs : List Int) (n : Int) (len : Nat) (hl : xs.length = len) (h64 : 64 ≤ len) :
    loopK sCn1a (ev G9 sL1) 1000 (sSt1 (.slice 1 0 0 len 0 none) [vw 1 len xs] st rest n 0 (List.replicate 64 0)) κ = κ (.exit 0) (withT 24 (.bool false) (sSt1 (.slice 1 0 0 len 0 none) [vw 1 len xs] st rest n 16 (loadL xs 16))) := by
  refine loopK_for (fun i => sSt1 (.slice 1 0 0 len 0 none) [vw 1 len xs] st rest n (i : Int) (loadL xs i)) 16 _ (fun i hi L => ?_) (fun L => ?_) 1000 (by omega)
  · refine (s_round1a L κ st rest (loadL xs i) xs n i len).trans ?_
    rw [show (decide ((i : Int) < 16)) = true by simp; omega, cond_true]
    have e1 : w63 (w63 (4 * (i : Int)) + 1) = ((4 * i + 1 : Nat) : Int) := w4 i 1 hi (by omega)
    have e2 : w63 (w63 (4 * (i : Int)) + 2) = ((4 * i + 2 : Nat) : Int) := w4 i 2 hi (by omega)
    have e3 : w63 (w63 (4 * (i : Int)) + 3) = ((4 * i + 3 : Nat) : Int) := w4 i 3 hi (by omega)
    rw [atO?_eq (4 * i) (w4_0 i hi), atO?_eq (4 * i + 1) e1, atO?_eq (4 * i + 2) e2, atO?_eq (4 * i + 3) e3, set?_eq i rfl (by omega), wS i (by omega), Int.toNat_natCast]
    · simp only [Nat.zero_add, loadL]
    all_goals omega
  · refine (s_round1a L κ st rest (loadL xs 16) xs n (16 : Nat) len).trans ?_
    rfl
theorem s_loop1b (κ : Kont) (st rest : List Int) (n : Int) (hl : rest.length = 64) :
    loopK sCn1b (ev G9 sL1) 1000 (sSt1 (.slice 0 9 0 64 0 (some 64)) [] st rest n 0 (List.replicate 64 0)) κ = κ (.exit 0) (withT 24 (.bool false) (sSt1 (.slice 0 9 0 64 0 (some 64)) [] st rest n 16 (loadL rest 16))) := by
  refine loopK_for (fun i => sSt1 (.slice 0 9 0 64 0 (some 64)) [] st rest n (i : Int) (loadL rest i)) 16 _ (fun i hi L => ?_) (fun L => ?_) 1000 (by omega)
  · refine (s_round1b L κ st rest (loadL rest i) n i).trans ?_
    rw [show (decide ((i : Int) < 16)) = true by simp; omega, cond_true]
    have e1 : w63 (w63 (4 * (i : Int)) + 1) = ((4 * i + 1 : Nat) : Int) := w4 i 1 hi (by omega)
    have e2 : w63 (w63 (4 * (i : Int)) + 2) = ((4 * i + 2 : Nat) : Int) := w4 i 2 hi (by omega)
    have e3 : w63 (w63 (4 * (i : Int)) + 3) = ((4 * i + 3 : Nat) : Int) := w4 i 3 hi (by omega)
    rw [atO?_eq (4 * i) (w4_0 i hi), atO?_eq (4 * i + 1) e1, atO?_eq (4 * i + 2) e2, atO?_eq (4 * i + 3) e3, set?_eq i rfl (by omega), wS i (by omega), Int.toNat_natCast]
    · simp only [Nat.zero_add, loadL]
    all_goals omega
  · refine (s_round1b L κ st rest (loadL rest 16) n (16 : Nat)).trans ?_
    rfl
theorem s_loop2 (κ : Kont) (st rest xs : List Int) (n : Int) :
    loopK sCn2 (ev G9 sL2) 1000 (sSt2 st rest n 16 (loadL xs 16)) κ = κ (.exit 2) (withT 63 (.bool false) (withT 62 (.int .i64 64) (sSt2 st rest n 64 (schedL xs 48)))) := by
  refine loopK_for (fun i => sSt2 st rest n ((16 + i : Nat) : Int) (schedL xs i)) 48 _ (fun i hi L => ?_) (fun L => ?_) 1000 (by omega)
  · refine (s_round2 L κ st rest (schedL xs i) n (16 + i : Nat)).trans ?_
    have hsl := schedL_len xs i
    rw [show (decide (((16 + i : Nat) : Int) < 64)) = true by simp only [decide_eq_true_eq]; omega, cond_true]
    have e1 : w63 (((16 + i : Nat) : Int) - 15) = _ := wSub (16 + i) 15 (by omega) (by omega)
    have e2 : w63 (((16 + i : Nat) : Int) - 2) = _ := wSub (16 + i) 2 (by omega) (by omega)
    have e3 : w63 (((16 + i : Nat) : Int) - 16) = _ := wSub (16 + i) 16 (by omega) (by omega)
    have e4 : w63 (((16 + i : Nat) : Int) - 7) = _ := wSub (16 + i) 7 (by omega) (by omega)
    rw [show (16 + i - 15) = 1 + i by omega] at e1
    rw [show (16 + i - 2) = 14 + i by omega] at e2
    rw [show (16 + i - 16) = i by omega] at e3
    rw [show (16 + i - 7) = 9 + i by omega] at e4
    rw [at?_eq _ e1, at?_eq _ e2, at?_eq _ e3, at?_eq _ e4, set?_eq (16 + i) rfl (by omega), wS (16 + i) (by omega), Int.toNat_natCast]
    · rfl
    all_goals omega
  · refine (s_round2 L κ st rest (schedL xs 48) n (64 : Nat)).trans ?_
    rfl
theorem s_loop3 (κ : Kont) (st rest ws : List Int) (n : Int) (s : W8) (hw : ws.length = 64) :
    loopK sCn3 (ev G9 sL3) 1000 (sSt3' st rest n 0 ws s) κ = κ (.exit 4) (withT 145 (.bool false) (sSt3' st rest n 64 ws (roundsL ws s 64))) := by
  refine loopK_for (fun i => sSt3' st rest n (i : Int) ws (roundsL ws s i)) 64 _ (fun i hi L => ?_) (fun L => ?_) 1000 (by omega)
  · refine (s_round3 L κ st rest ws n i _).trans ?_
    rw [show (decide ((i : Int) < 64)) = true by simp only [decide_eq_true_eq]; omega, cond_true]
    have hk : shaK.length = 64 := rfl
    rw [at?_eq i rfl, at?_eq i rfl, wS i (by omega)]
    · rfl
    all_goals omega
  · refine (s_round3 L κ st rest ws n (64 : Nat) _).trans ?_
    rfl
theorem s_loop4 (κ : Kont) (st rest ws : List Int) (n : Int) (hw : ws.length = 8) (hs : st.length = 8) :
    loopK sCn4 (ev G9 sL4) 1000 (sSt4 st rest n 0 ws) κ = κ (.exit 6) (withT 217 (.bool false) (sSt4 (addW st ws 8) rest n 8 ws)) := by
  refine loopK_for (fun i => sSt4 (addW st ws i) rest n (i : Int) ws) 8 _ (fun i hi L => ?_) (fun L => ?_) 1000 (by omega)
  · refine (s_round4 L κ (addW st ws i) rest ws n i).trans ?_
    have hl := addW_len st ws i
    rw [show (decide ((i : Int) < 8)) = true by simp only [decide_eq_true_eq]; omega, cond_true]
    rw [at?_eq i rfl, at?_eq i rfl, set?_eq i rfl (by omega), wS i (by omega), Int.toNat_natCast]
    · rfl
    all_goals omega
  · refine (s_round4 L κ (addW st ws 8) rest ws n (8 : Nat)).trans ?_
    rfl
set_option maxRecDepth 100000
theorem s_p1a (B R : ACode) (K : Kont) (st rest xs : List Int) (n : Int) (len : Nat) :
    ev G9 sA ⟨[pt 0, .slice 1 0 0 len 0 none] ++ List.replicate 230 .undef, ⟨16, [cel 0 (hashB st rest n), vw 1 len xs]⟩⟩ (kSeq G9 none (.seq none (.seq none sI1 B) R) K) =
    ev G9 B (sSt1 (.slice 1 0 0 len 0 none) [vw 1 len xs] st rest n 0 (List.replicate 64 0)) (kSeq G9 none R K) := by kernel_rfl
theorem s_p1b (B R : ACode) (K : Kont) (st rest : List Int) (n : Int) :
    ev G9 sA ⟨[pt 0, .slice 0 9 0 64 0 (some 64)] ++ List.replicate 230 .undef, ⟨16, [cel 0 (hashB st rest n)]⟩⟩ (kSeq G9 none (.seq none (.seq none sI1 B) R) K) =
    ev G9 B (sSt1 (.slice 0 9 0 64 0 (some 64)) [] st rest n 0 (List.replicate 64 0)) (kSeq G9 none R K) := by kernel_rfl
theorem s_c1a (L : St → Option Res) (st rest xs : List Int) (n : Int) (len : Nat) : canonK sCn1a (sSt1 (.slice 1 0 0 len 0 none) [vw 1 len xs] st rest n 0 (List.replicate 64 0)) L = L (sSt1 (.slice 1 0 0 len 0 none) [vw 1 len xs] st rest n 0 (List.replicate 64 0)) := by kernel_rfl
theorem s_c1b (L : St → Option Res) (st rest : List Int) (n : Int) : canonK sCn1b (sSt1 (.slice 0 9 0 64 0 (some 64)) [] st rest n 0 (List.replicate 64 0)) L = L (sSt1 (.slice 0 9 0 64 0 (some 64)) [] st rest n 0 (List.replicate 64 0)) := by kernel_rfl
theorem s_p2a (F : Nat) (C R : ACode) (K : Kont) (st rest xs ws : List Int) (n : Int) (len : Nat) :
    ev G9 (.seq none (.seq none sI2 (.block 2 none (.loop F sCn2 C))) R) (withT 24 (.bool false) (sSt1 (.slice 1 0 0 len 0 none) [vw 1 len xs] st rest n 16 ws)) K =
    loopK sCn2 (ev G9 C) F (sSt2 st rest n 16 ws) (kBlock 2 none (kSeq G9 none R K)) := by kernel_rfl
theorem s_p2b (F : Nat) (C R : ACode) (K : Kont) (st rest ws : List Int) (n : Int) :
    ev G9 (.seq none (.seq none sI2 (.block 2 none (.loop F sCn2 C))) R) (withT 24 (.bool false) (sSt1 (.slice 0 9 0 64 0 (some 64)) [] st rest n 16 ws)) K =
    loopK sCn2 (ev G9 C) F (sSt2 st rest n 16 ws) (kBlock 2 none (kSeq G9 none R K)) := by kernel_rfl
theorem s_p3 (F : Nat) (C R : ACode) (K : Kont) (f : Nat → Int) (rest ws : List Int) (n : Int) :
    ev G9 (.seq none sB (.seq none (.seq none sI3 (.block 4 none (.loop F sCn3 C))) R)) (withT 63 (.bool false) (withT 62 (.int .i64 64) (sSt2 (tab 8 f) rest n 64 ws))) K =
    loopK sCn3 (ev G9 C) F (sSt3' (tab 8 f) rest n 0 ws (toW8 (tab 8 f))) (kBlock 4 none (kSeq G9 none R K)) := by kernel_rfl
theorem s_p4 (F : Nat) (C : ACode) (K : Kont) (st rest ws : List Int) (n : Int) (s : W8) :
    ev G9 (.seq none sI4 (.block 6 none (.loop F sCn4 C))) (withT 145 (.bool false) (sSt3' st rest n 64 ws s)) K =
    loopK sCn4 (ev G9 C) F (sSt4 st rest n 0 (ofW8 s)) (kBlock 6 none K) := by kernel_rfl
theorem s_end (st rest ws : List Int) (n : Int) : kBlock 6 none (kFn [] (kObj false [])) (.exit 6) (withT 217 (.bool false) (sSt4 st rest n 8 ws)) = some (.tuple [], ⟨0, [cel 0 (hashB st rest n)]⟩) := by kernel_rfl
theorem step_from (f : Nat → Int) (rest xs : List Int) (n : Int) :
    loopK sCn2 (ev G9 sL2) 1000 (sSt2 (tab 8 f) rest n 16 (loadL xs 16)) (kBlock 2 none (kSeq G9 none (.seq none sB (.seq none (.seq none sI3 (.block 4 none (.loop 1000 sCn3 sL3))) (.seq none sI4 (.block 6 none (.loop 1000 sCn4 sL4))))) (kFn [] (kObj false [])))) =
    some (.tuple [], ⟨0, [cel 0 (hashB (stepL (tab 8 f) xs) rest n)]⟩) := by
  rw [s_loop2, kBlock_exit]
  refine (s_p3 ..).trans ?_
  rw [s_loop3 _ _ _ _ _ _ (schedL_len xs 48), kBlock_exit]
  refine (s_p4 ..).trans ?_
  rw [s_loop4 _ _ _ _ _ rfl rfl]
  exact s_end ..
theorem step_runA (f : Nat → Int) (rest xs : List Int) (n : Int) (len : Nat) (hl : xs.length = len) (h64 : 64 ≤ len) :
    evFn G9 (afStepOf sCn1a) [pt 0, .slice 1 0 0 len 0 none] ⟨16, [cel 0 (hashB (tab 8 f) rest n), vw 1 len xs]⟩ (kObj false []) = some (.tuple [], ⟨0, [cel 0 (hashB (stepL (tab 8 f) xs) rest n)]⟩) := by
  refine (evFn_eq ..).trans ?_
  refine (ev_seq ..).trans ?_
  refine (s_p1a _ _ _ (tab 8 f) rest xs n len).trans ?_
  refine (ev_block ..).trans ?_
  refine (ev_loop ..).trans ?_
  rw [s_c1a, s_loop1a _ _ _ _ _ _ hl h64, kBlock_exit]
  refine (s_p2a ..).trans ?_
  exact step_from f rest xs n
theorem step_runB (f : Nat → Int) (rest : List Int) (n : Int) (hl : rest.length = 64) :
    evFn G9 (afStepOf sCn1b) [pt 0, .slice 0 9 0 64 0 (some 64)] ⟨16, [cel 0 (hashB (tab 8 f) rest n)]⟩ (kObj false []) = some (.tuple [], ⟨0, [cel 0 (hashB (stepL (tab 8 f) rest) rest n)]⟩) := by
  refine (evFn_eq ..).trans ?_
  refine (ev_seq ..).trans ?_
  refine (s_p1b _ _ _ (tab 8 f) rest n).trans ?_
  refine (ev_block ..).trans ?_
  refine (ev_loop ..).trans ?_
  rw [s_c1b, s_loop1b _ _ _ _ hl, kBlock_exit]
  refine (s_p2b ..).trans ?_
  exact step_from f rest rest n
set_option maxRecDepth 100000
abbrev Obj1 := Nat → List AV → List AV → Heap → Option (AV × List AV)
def orObj (a b : Obj1) : Obj1 := fun id l rest h => match a id l rest h with
  | some r => some r
  | none => b id l rest h
theorem objO_or {P : Program} {f : FuncId} {a b : Obj1} (ha : FullOk P f (objO a)) (hb : FullOk P f (objO b)) : FullOk P f (objO (orObj a b)) where
  factor := objO_factor _
  sound := fun args hp v h' ι w vs hk => by
    have key : objO a args hp kH = some (v, h') ∨ objO b args hp kH = some (v, h') := by
      unfold objO at hk
      split at hk <;> try (cases hk; done)
      rename_i id rest
      split at hk <;> try (cases hk; done)
      rename_i l hg
      have h1 : ∀ o : Obj1, objO o (.ptr id 0 0 0 0 :: rest) hp kH = (o id l rest hp).bind fun r => kH r.1 (hp.set id (.segs r.2)) := fun o => by
        show (match hp.get id with
          | some ⟨_, false, .segs l⟩ => (o id l rest hp).bind fun r => kH r.1 (hp.set id (.segs r.2))
          | _ => none) = _
        rw [hg]
      rw [h1, h1]
      unfold orObj at hk
      cases e : a id l rest hp with
      | some r => rw [e] at hk; exact .inl hk
      | none => rw [e] at hk; exact .inr hk
    rcases key with h | h
    · exact ha.sound args hp v h' ι w vs h
    · exact hb.sound args hp v h' ι w vs h
def stepOa : Obj1 := fun id l rest h => match l, rest with
  | [.ints .u32 8 st, .isl .u32 ks, .ints .u8 64 re, .int .i64 n], [v] =>
    if ks = shaK then (if (avIds v).contains id then none else (contI .u8 h v).bind fun xs => if 64 ≤ xs.length then some (.tuple [], hashB (stepL st xs) re n) else none) else none
  | _, _ => none
def stepOb : Obj1 := fun id l rest _ => match l, rest with
  | [.ints .u32 8 st, .isl .u32 ks, .ints .u8 64 re, .int .i64 n], [.slice i 9 0 64 0 (some 64)] =>
    if ks = shaK then (if i = id then some (.tuple [], hashB (stepL st re) re n) else none) else none
  | _, _ => none
theorem step_fullA {P : Program} {f : FuncId} (F : Fn P f G9 (afStepOf sCn1a)) : FullOk P f (objO stepOa) := by
  refine F.obj [.sl (.ints .u8)] false [] fun id l rest hp v l' hok wf ao h => ?_
  unfold stepOa at h
  split at h <;> try (cases h; done)
  rename_i st ks re n v0
  split at h <;> try (cases h; done)
  rename_i hks
  subst hks
  split at h <;> try (cases h; done)
  rename_i hni
  cases hc : contI .u8 hp v0 with
  | none => rw [hc] at h; cases h
  | some xs =>
    rw [hc] at h
    simp only [Option.bind_some] at h
    split at h <;> try (cases h; done)
    rename_i h64
    cases h
    obtain ⟨g, rfl⟩ := tab_of (wf _ (.head _))
    refine ⟨rfl, [.slice 1 0 0 xs.length 0 none], [vw 1 xs.length xs], ?_, by simp, step_runA g re xs n xs.length rfl h64⟩
    have hany : (avIds v0).any [id].contains = false := by
      rw [List.any_eq_false]
      intro x hx hm
      simp only [List.contains_cons, List.contains_nil, Bool.or_false, beq_iff_eq] at hm
      subst hm
      exact hni (by simpa using hx)
    simp only [List.map_cons, List.map_nil, viewObjs, hany, Bool.false_eq_true, if_false, viewArgs, contI_isSl hc, if_true, viewS_ints hc, Option.bind_some, Option.map_some, List.append_nil]
    rfl
theorem step_fullB {P : Program} {f : FuncId} (F : Fn P f G9 (afStepOf sCn1b)) : FullOk P f (objO stepOb) := by
  refine F.obj [.plain] false [] fun id l rest hp v l' hok wf ao h => ?_
  unfold stepOb at h
  split at h <;> try (cases h; done)
  rename_i st ks re n i
  split at h <;> try (cases h; done)
  rename_i hks
  subst hks
  split at h <;> try (cases h; done)
  rename_i hi
  subst hi
  cases h
  obtain ⟨g, rfl⟩ := tab_of (wf _ (.head _))
  have hre : re.length = 64 := wf _ (.tail _ (.tail _ (.head _)))
  refine ⟨rfl, [.slice 0 9 0 64 0 (some 64)], [], ?_, by simp, step_runB g re n hre⟩
  simp [viewObjs, avIds, rnAV, posN]
def stepO : Obj1 := orObj stepOa stepOb
theorem step_full {P : Program} {f : FuncId} (F : Fn P f G9 (afStepOf sCn1a)) (F' : Fn P f G9 (afStepOf sCn1b)) : FullOk P f (objO stepO) := objO_or (step_fullA F) (step_fullB F')
abbrev pI : Int := 57896044618658097711785492504343953926634992332820282019728792003956564819949
def val : List Int → Int
  | [a, b, c, d, e] => a + 2251799813685248 * b + 5070602400912917605986812821504 * c + 11417981541647679048466287755595961091061972992 * d + 25711008708143844408671393477458601640355247900524685364822016 * e
  | _ => 0
def Lim (xs : List Int) : Prop := ∃ a b c d e, xs = [a, b, c, d, e] ∧ (0 ≤ a ∧ a < 2251799813685248) ∧ (0 ≤ b ∧ b < 2251799813685248) ∧ (0 ≤ c ∧ c < 2251799813685248) ∧ (0 ≤ d ∧ d < 2251799813685248) ∧ (0 ≤ e ∧ e < 2251799813693440)
theorem w64_eq (n : Int) : w64 n = n % 18446744073709551616 := wrap_u64 n
theorem sh51_eq (n : Int) : sh51 n = n / 2251799813685248 := by
  have := fdiv_pow n 51
  simpa [sh51] using this
theorem m51_eq {n : Int} (h0 : 0 ≤ n) (h1 : n < 18446744073709551616) : m51 n = n % 2251799813685248 := by
  obtain ⟨m, rfl⟩ := Int.eq_ofNat_of_zero_le h0
  have h := bw_nat .and .u64 rfl m 2251799813685247 (by simp only [IntKind.bits]; omega) (by decide)
  have e : (m &&& 2251799813685247) = m % 2251799813685248 := and_mask m 51
  simp only [e] at h
  simpa [m51] using h
theorem carry_val {a b c d e : Int} (ha : 0 ≤ a ∧ a < 9223372036854775808) (hb : 0 ≤ b ∧ b < 9223372036854775808) (hc : 0 ≤ c ∧ c < 9223372036854775808) (hd : 0 ≤ d ∧ d < 9223372036854775808) (he : 0 ≤ e ∧ e < 9223372036854775808) :
    Lim (carry5 a b c d e) ∧ val (carry5 a b c d e) = val [a, b, c, d, e] - e / 2251799813685248 * pI := by
  simp only [carry5, w64_eq, sh51_eq]
  rw [m51_eq (n := e) (by omega) (by omega)]
  generalize e1 : (a + 19 * (e / 2251799813685248) % 18446744073709551616) % 18446744073709551616 = a'
  have h1 : a' = a + 19 * (e / 2251799813685248) := by omega
  have k1 : a' < 9223372036854855808 := by omega
  generalize e2 : (b + a' / 2251799813685248) % 18446744073709551616 = b'
  have h2 : b' = b + a' / 2251799813685248 := by omega
  have k2 : b' < 9223372036854855808 := by omega
  generalize e3 : (c + b' / 2251799813685248) % 18446744073709551616 = c'
  have h3 : c' = c + b' / 2251799813685248 := by omega
  have k3 : c' < 9223372036854855808 := by omega
  generalize e4 : (d + c' / 2251799813685248) % 18446744073709551616 = d'
  have h4 : d' = d + c' / 2251799813685248 := by omega
  have k4 : d' < 9223372036854855808 := by omega
  have k5 : d' / 2251799813685248 ≤ 4096 := by omega
  have k6 : 0 ≤ d' / 2251799813685248 := by omega
  rw [m51_eq (n := a') (by omega) (by omega), m51_eq (n := b') (by omega) (by omega), m51_eq (n := c') (by omega) (by omega), m51_eq (n := d') (by omega) (by omega)]
  have k7 : 0 ≤ e % 2251799813685248 ∧ e % 2251799813685248 ≤ 2251799813685247 := by omega
  rw [Int.emod_eq_of_lt (a := e % 2251799813685248 + d' / 2251799813685248) (by clear e1 e2 e3 e4 h1 h2 h3 h4; omega) (by clear e1 e2 e3 e4 h1 h2 h3 h4; omega)]
  refine ⟨⟨_, _, _, _, _, rfl, by omega, by omega, by omega, by omega, by clear e1 e2 e3 e4 h1 h2 h3 h4; omega⟩, ?_⟩
  simp only [val, pI]
  omega
def Acc (p : Int × Int) (T : Int) : Prop := 0 ≤ p.1 ∧ 0 ≤ p.2 ∧ p.2 < 18446744073709551616 ∧ p.1 * 18446744073709551616 + p.2 = T
theorem Acc.zero : Acc (0,0) 0 := ⟨by decide, by decide, by decide, by decide⟩
theorem Acc.pl {p : Int × Int} {T x y : Int} (h : Acc p T) (h0 : 0 ≤ x * y) (h1 : T + x * y < 340282366920938463463374607431768211456) : Acc (pl p x y) (T + x * y) := by
  obtain ⟨a, b, c, d⟩ := h
  simp only [Am.pl, Acc, plusHi, plusLo]
  generalize x * y = q at *
  refine ⟨by omega, by omega, by omega, ?_⟩
  omega
theorem fstep_eq {hi lo c T : Int} (h : Acc (hi, lo) T) (h0 : 0 ≤ c) (h1 : T + c < 41538374868278621028243970633760768) :
    fstep hi lo c = ((T + c) % 2251799813685248, (T + c) / 2251799813685248) := by
  obtain ⟨a, b, d, e⟩ := h
  simp only at a b d e
  simp only [fstep, w64_eq, sh51_eq]
  rw [m51_eq (by omega) (by omega)]
  generalize hs : (hi + (lo + c + 0) / 18446744073709551616) % 18446744073709551616 = s
  have h2 : s = hi + (lo + c) / 18446744073709551616 := by omega
  generalize hl : (lo + c + 0) % 18446744073709551616 = l
  have h3 : T + c = s * 18446744073709551616 + l := by omega
  have hs1 : s < 2251799813685248 := by omega
  have e5 : (s * 2 ^ 13) % 18446744073709551616 = s * 8192 := by
    rw [show (2 : Int) ^ 13 = 8192 by decide]; omega
  rw [e5]
  obtain ⟨sn, rfl⟩ := Int.eq_ofNat_of_zero_le (show 0 ≤ s by omega)
  obtain ⟨ln, rfl⟩ := Int.eq_ofNat_of_zero_le (show 0 ≤ l by omega)
  have hb := bw_nat .or .u64 rfl (sn * 8192) (ln / 2251799813685248) (by simp only [IntKind.bits]; omega) (by simp only [IntKind.bits]; omega)
  have ho : (sn * 8192) ||| (ln / 2251799813685248) = sn * 8192 + ln / 2251799813685248 := by
    have := Nat.two_pow_add_eq_or_of_lt (i := 13) (b := ln / 2251799813685248) (by omega) sn
    rw [show (2 : Nat) ^ 13 = 8192 by decide, Nat.mul_comm] at this
    exact this.symm
  simp only [ho] at hb
  rw [show ((sn : Int) * 8192) = ((sn * 8192 : Nat) : Int) by omega, show ((ln : Int) / 2251799813685248) = ((ln / 2251799813685248 : Nat) : Int) by omega, hb, Prod.mk.injEq]
  constructor <;> omega
theorem folded_val {p0 p1 p2 p3 p4 : Int × Int} {T0 T1 T2 T3 T4 : Int} (h0 : Acc p0 T0) (h1 : Acc p1 T1) (h2 : Acc p2 T2) (h3 : Acc p3 T3) (h4 : Acc p4 T4)
    (b0 : T0 < 20769187434139310514121985316880384) (b1 : T1 < 20769187434139310514121985316880384) (b2 : T2 < 20769187434139310514121985316880384) (b3 : T3 < 20769187434139310514121985316880384) (b4 : T4 < 162259276829213363391578010288128) :
    Lim (folded10 p0 p1 p2 p3 p4) ∧ ∃ k, val (folded10 p0 p1 p2 p3 p4) = val [T0, T1, T2, T3, T4] - k * pI := by
  have n0 : 0 ≤ T0 := by obtain ⟨_, _, _, _⟩ := h0; omega
  have n1 : 0 ≤ T1 := by obtain ⟨_, _, _, _⟩ := h1; omega
  have n2 : 0 ≤ T2 := by obtain ⟨_, _, _, _⟩ := h2; omega
  have n3 : 0 ≤ T3 := by obtain ⟨_, _, _, _⟩ := h3; omega
  have n4 : 0 ≤ T4 := by obtain ⟨_, _, _, _⟩ := h4; omega
  have f0 := fstep_eq (c := 0) h0 (by omega) (by omega)
  have f1 := fstep_eq (c := (T0 + 0) / 2251799813685248) h1 (by omega) (by omega)
  have f2 := fstep_eq (c := (T1 + (T0 + 0) / 2251799813685248) / 2251799813685248) h2 (by omega) (by omega)
  have f3 := fstep_eq (c := (T2 + (T1 + (T0 + 0) / 2251799813685248) / 2251799813685248) / 2251799813685248) h3 (by omega) (by omega)
  have f4 := fstep_eq (c := (T3 + (T2 + (T1 + (T0 + 0) / 2251799813685248) / 2251799813685248) / 2251799813685248) / 2251799813685248) h4 (by omega) (by omega)
  simp only [folded10, f0, f1, f2, f3, f4, w64_eq]
  generalize g1 : T0 + 0 = s0
  generalize g2 : T1 + s0 / 2251799813685248 = s1
  generalize g3 : T2 + s1 / 2251799813685248 = s2
  generalize g4 : T3 + s2 / 2251799813685248 = s3
  generalize g5 : T4 + s3 / 2251799813685248 = s4
  have e1 : (s0 % 2251799813685248 + 19 * (s4 / 2251799813685248) % 18446744073709551616) % 18446744073709551616 = s0 % 2251799813685248 + 19 * (s4 / 2251799813685248) := by omega
  rw [e1]
  obtain ⟨l, v⟩ := carry_val (a := s0 % 2251799813685248 + 19 * (s4 / 2251799813685248)) (b := s1 % 2251799813685248) (c := s2 % 2251799813685248) (d := s3 % 2251799813685248) (e := s4 % 2251799813685248) (by omega) (by omega) (by omega) (by omega) (by omega)
  refine ⟨l, s4 / 2251799813685248, ?_⟩
  simp only [carryL]
  rw [v]
  simp only [val, pI]
  omega
theorem mulB {x y U V : Int} (hx : 0 ≤ x ∧ x ≤ U) (hy : 0 ≤ y ∧ y ≤ V) : 0 ≤ x * y ∧ x * y ≤ U * V :=
  ⟨Int.mul_nonneg hx.1 hy.1, Int.mul_le_mul hx.2 hy.2 hy.1 (by omega)⟩
abbrev limU : Int := 2251799813693440
theorem lim_mul {x y : Int} (hx : 0 ≤ x ∧ x ≤ limU) (hy : 0 ≤ y ∧ y ≤ limU) : 0 ≤ x * y ∧ x * y ≤ 5070602400949811094134299033600 := mulB hx hy
theorem lim_mul19 {x y : Int} (hx : 0 ≤ x ∧ x ≤ limU) (hy : 0 ≤ y ∧ y ≤ limU) : 0 ≤ x * (19 * y) ∧ x * (19 * y) ≤ 96341445618046410788551681638400 := mulB (V := 19 * limU) hx (by omega)
theorem w19 {y : Int} (hy : 0 ≤ y ∧ y ≤ limU) : w64 (19 * y) = 19 * y := by rw [w64_eq]; simp only [limU] at hy; omega
theorem w2 {y : Int} (hy : 0 ≤ y ∧ y ≤ limU) : w64 (2 * y) = 2 * y := by rw [w64_eq]; simp only [limU] at hy; omega
theorem acc5 {a b c d e a' b' c' d' e' A B C D E : Int} (h1 : 0 ≤ a * a' ∧ a * a' ≤ A) (h2 : 0 ≤ b * b' ∧ b * b' ≤ B) (h3 : 0 ≤ c * c' ∧ c * c' ≤ C) (h4 : 0 ≤ d * d' ∧ d * d' ≤ D) (h5 : 0 ≤ e * e' ∧ e * e' ≤ E) (hs : A + B + C + D + E < 340282366920938463463374607431768211456) :
    Acc (pl (pl (pl (pl (pl (0,0) a a') b b') c c') d d') e e') (0 + a * a' + b * b' + c * c' + d * d' + e * e') :=
  ((((Acc.zero.pl h1.1 (by omega)).pl h2.1 (by omega)).pl h3.1 (by omega)).pl h4.1 (by omega)).pl h5.1 (by omega)
theorem mul_val {xs ys : List Int} (hx : Lim xs) (hy : Lim ys) : Lim (mulL xs ys) ∧ ∃ k, val (mulL xs ys) = val xs * val ys - k * pI := by
  obtain ⟨x0, x1, x2, x3, x4, rfl, a0, a1, a2, a3, a4⟩ := hx
  obtain ⟨y0, y1, y2, y3, y4, rfl, b0, b1, b2, b3, b4⟩ := hy
  replace a0 : 0 ≤ x0 ∧ x0 ≤ limU := by simp only [limU]; omega
  replace a1 : 0 ≤ x1 ∧ x1 ≤ limU := by simp only [limU]; omega
  replace a2 : 0 ≤ x2 ∧ x2 ≤ limU := by simp only [limU]; omega
  replace a3 : 0 ≤ x3 ∧ x3 ≤ limU := by simp only [limU]; omega
  replace a4 : 0 ≤ x4 ∧ x4 ≤ limU := by simp only [limU]; omega
  replace b0 : 0 ≤ y0 ∧ y0 ≤ limU := by simp only [limU]; omega
  replace b1 : 0 ≤ y1 ∧ y1 ≤ limU := by simp only [limU]; omega
  replace b2 : 0 ≤ y2 ∧ y2 ≤ limU := by simp only [limU]; omega
  replace b3 : 0 ≤ y3 ∧ y3 ≤ limU := by simp only [limU]; omega
  replace b4 : 0 ≤ y4 ∧ y4 ≤ limU := by simp only [limU]; omega
  simp only [mulL, mul10, w19 b1, w19 b2, w19 b3, w19 b4]
  have t0 := acc5 (lim_mul a0 b0) (lim_mul19 a1 b4) (lim_mul19 a2 b3) (lim_mul19 a3 b2) (lim_mul19 a4 b1) (by decide)
  have t1 := acc5 (lim_mul a0 b1) (lim_mul a1 b0) (lim_mul19 a2 b4) (lim_mul19 a3 b3) (lim_mul19 a4 b2) (by decide)
  have t2 := acc5 (lim_mul a0 b2) (lim_mul a1 b1) (lim_mul a2 b0) (lim_mul19 a3 b4) (lim_mul19 a4 b3) (by decide)
  have t3 := acc5 (lim_mul a0 b3) (lim_mul a1 b2) (lim_mul a2 b1) (lim_mul a3 b0) (lim_mul19 a4 b4) (by decide)
  have t4 := acc5 (lim_mul a0 b4) (lim_mul a1 b3) (lim_mul a2 b2) (lim_mul a3 b1) (lim_mul a4 b0) (by decide)
  obtain ⟨l, k, hk⟩ := folded_val t0 t1 t2 t3 t4
    (by have := lim_mul a0 b0; have := lim_mul19 a1 b4; have := lim_mul19 a2 b3; have := lim_mul19 a3 b2; have := lim_mul19 a4 b1; omega)
    (by have := lim_mul a0 b1; have := lim_mul a1 b0; have := lim_mul19 a2 b4; have := lim_mul19 a3 b3; have := lim_mul19 a4 b2; omega)
    (by have := lim_mul a0 b2; have := lim_mul a1 b1; have := lim_mul a2 b0; have := lim_mul19 a3 b4; have := lim_mul19 a4 b3; omega)
    (by have := lim_mul a0 b3; have := lim_mul a1 b2; have := lim_mul a2 b1; have := lim_mul a3 b0; have := lim_mul19 a4 b4; omega)
    (by have := lim_mul a0 b4; have := lim_mul a1 b3; have := lim_mul a2 b2; have := lim_mul a3 b1; have := lim_mul a4 b0; omega)
  refine ⟨l, k + ((x1*y4+x2*y3+x3*y2+x4*y1) + 2251799813685248 *(x2*y4+x3*y3+x4*y2) + 5070602400912917605986812821504*(x3*y4+x4*y3) + 11417981541647679048466287755595961091061972992 *(x4*y4)), ?_⟩
  rw [hk]
  simp only [val, pI]
  clear hk l t0 t1 t2 t3 t4 a0 a1 a2 a3 a4 b0 b1 b2 b3 b4
  grind
theorem acc3 {a b c a' b' c' A B C : Int} (h1 : 0 ≤ a * a' ∧ a * a' ≤ A) (h2 : 0 ≤ b * b' ∧ b * b' ≤ B) (h3 : 0 ≤ c * c' ∧ c * c' ≤ C) (hs : A + B + C < 340282366920938463463374607431768211456) :
    Acc (pl (pl (pl (0,0) a a') b b') c c') (0 + a * a' + b * b' + c * c') :=
  ((Acc.zero.pl h1.1 (by omega)).pl h2.1 (by omega)).pl h3.1 (by omega)
theorem lim_22 {x y : Int} (hx : 0 ≤ x ∧ x ≤ limU) (hy : 0 ≤ y ∧ y ≤ limU) : 0 ≤ (2 * x) * y ∧ (2 * x) * y ≤ 10141204801899622188268598067200 := mulB (U := 2 * limU) (by omega) hy
theorem lim_219 {x y : Int} (hx : 0 ≤ x ∧ x ≤ limU) (hy : 0 ≤ y ∧ y ≤ limU) : 0 ≤ (2 * x) * (19 * y) ∧ (2 * x) * (19 * y) ≤ 192682891236092821577103363276800 := mulB (U := 2 * limU) (V := 19 * limU) (by omega) (by omega)
theorem sq_val {xs : List Int} (hx : Lim xs) : Lim (sqL xs) ∧ ∃ k, val (sqL xs) = val xs * val xs - k * pI := by
  obtain ⟨x0, x1, x2, x3, x4, rfl, a0, a1, a2, a3, a4⟩ := hx
  replace a0 : 0 ≤ x0 ∧ x0 ≤ limU := by simp only [limU]; omega
  replace a1 : 0 ≤ x1 ∧ x1 ≤ limU := by simp only [limU]; omega
  replace a2 : 0 ≤ x2 ∧ x2 ≤ limU := by simp only [limU]; omega
  replace a3 : 0 ≤ x3 ∧ x3 ≤ limU := by simp only [limU]; omega
  replace a4 : 0 ≤ x4 ∧ x4 ≤ limU := by simp only [limU]; omega
  simp only [sqL, sq5, w19 a3, w19 a4, w2 a0, w2 a1, w2 a2, w2 a3]
  have t0 := acc3 (lim_mul a0 a0) (lim_219 a1 a4) (lim_219 a2 a3) (by decide)
  have t1 := acc3 (lim_22 a0 a1) (lim_219 a2 a4) (lim_mul19 a3 a3) (by decide)
  have t2 := acc3 (lim_22 a0 a2) (lim_mul a1 a1) (lim_219 a3 a4) (by decide)
  have t3 := acc3 (lim_22 a0 a3) (lim_22 a1 a2) (lim_mul19 a4 a4) (by decide)
  have t4 := acc3 (lim_22 a0 a4) (lim_22 a1 a3) (lim_mul a2 a2) (by decide)
  obtain ⟨l, k, hk⟩ := folded_val t0 t1 t2 t3 t4
    (by have := lim_mul a0 a0; have := lim_219 a1 a4; have := lim_219 a2 a3; omega)
    (by have := lim_22 a0 a1; have := lim_219 a2 a4; have := lim_mul19 a3 a3; omega)
    (by have := lim_22 a0 a2; have := lim_mul a1 a1; have := lim_219 a3 a4; omega)
    (by have := lim_22 a0 a3; have := lim_22 a1 a2; have := lim_mul19 a4 a4; omega)
    (by have := lim_22 a0 a4; have := lim_22 a1 a3; have := lim_mul a2 a2; omega)
  refine ⟨l, k + ((x1*x4+x2*x3+x3*x2+x4*x1) + 2251799813685248 *(x2*x4+x3*x3+x4*x2) + 5070602400912917605986812821504*(x3*x4+x4*x3) + 11417981541647679048466287755595961091061972992 *(x4*x4)), ?_⟩
  rw [hk]
  simp only [val, pI]
  clear hk l t0 t1 t2 t3 t4 a0 a1 a2 a3 a4
  grind
theorem add_val {xs ys : List Int} (hx : Lim xs) (hy : Lim ys) : Lim (addL xs ys) ∧ ∃ k, val (addL xs ys) = val xs + val ys - k * pI := by
  obtain ⟨x0, x1, x2, x3, x4, rfl, a0, a1, a2, a3, a4⟩ := hx
  obtain ⟨y0, y1, y2, y3, y4, rfl, b0, b1, b2, b3, b4⟩ := hy
  simp only [addL, carryL, w64_eq]
  obtain ⟨l, v⟩ := carry_val (a := (x0 + y0) % 18446744073709551616) (b := (x1 + y1) % 18446744073709551616) (c := (x2 + y2) % 18446744073709551616) (d := (x3 + y3) % 18446744073709551616) (e := (x4 + y4) % 18446744073709551616) (by omega) (by omega) (by omega) (by omega) (by omega)
  refine ⟨l, (x4 + y4) % 18446744073709551616 / 2251799813685248, ?_⟩
  rw [v]
  simp only [val, pI]
  omega
theorem sub_val {xs ys : List Int} (hx : Lim xs) (hy : Lim ys) : Lim (subL xs ys) ∧ ∃ k, val (subL xs ys) = val xs - val ys - k * pI := by
  obtain ⟨x0, x1, x2, x3, x4, rfl, a0, a1, a2, a3, a4⟩ := hx
  obtain ⟨y0, y1, y2, y3, y4, rfl, b0, b1, b2, b3, b4⟩ := hy
  simp only [subL, carryL, w64_eq]
  generalize e0 : (x0 + (4503599627370458 - y0) % 18446744073709551616) % 18446744073709551616 = z0
  generalize e1 : (x1 + (4503599627370494 - y1) % 18446744073709551616) % 18446744073709551616 = z1
  generalize e2 : (x2 + (4503599627370494 - y2) % 18446744073709551616) % 18446744073709551616 = z2
  generalize e3 : (x3 + (4503599627370494 - y3) % 18446744073709551616) % 18446744073709551616 = z3
  generalize e4 : (x4 + (4503599627370494 - y4) % 18446744073709551616) % 18446744073709551616 = z4
  have f0 : z0 = x0 + (4503599627370458 - y0) := by omega
  have f1 : z1 = x1 + (4503599627370494 - y1) := by omega
  have f2 : z2 = x2 + (4503599627370494 - y2) := by omega
  have f3 : z3 = x3 + (4503599627370494 - y3) := by omega
  have f4 : z4 = x4 + (4503599627370494 - y4) := by omega
  clear e0 e1 e2 e3 e4
  obtain ⟨l, v⟩ := carry_val (a := z0) (b := z1) (c := z2) (d := z3) (e := z4) (by omega) (by omega) (by omega) (by omega) (by omega)
  refine ⟨l, z4 / 2251799813685248 - 2, ?_⟩
  rw [v]
  simp only [val, pI]
  omega
theorem of_val {n : Int} (h0 : 0 ≤ n) (h1 : n < 18446744073709551616) : Lim (ofL n) ∧ val (ofL n) = n := by
  simp only [ofL, m51_eq h0 h1, sh51_eq]
  refine ⟨⟨_, _, _, _, _, rfl, by omega, by omega, by omega, by omega, by omega⟩, ?_⟩
  simp only [val]
  omega
abbrev pN : Nat := 57896044618658097711785492504343953926634992332820282019728792003956564819949
def Repr (xs : List Int) (n : Nat) : Prop := Lim xs ∧ val xs % pI = ((n % pN : Nat) : Int)
theorem emod_add_mul' (n : Nat) : ((n % pN : Nat) : Int) = (n : Int) % pI := by simp only [pN, pI]; omega
theorem repr_of {xs : List Int} {n : Nat} (h : Lim xs) (k : Int) (hv : val xs = (n : Int) - k * pI) : Repr xs n := by
  refine ⟨h, ?_⟩
  rw [hv, Int.sub_mul_emod_self_right]
  exact (emod_add_mul' n).symm
theorem repr_val {xs : List Int} {n : Nat} (h : Repr xs n) : ∃ k, val xs = (n : Int) - k * pI := by
  obtain ⟨_, hv⟩ := h
  refine ⟨(n : Int) / pI - val xs / pI, ?_⟩
  have h1 := Int.mul_ediv_add_emod (val xs) pI
  have h2 := Int.mul_ediv_add_emod (n : Int) pI
  rw [hv, emod_add_mul'] at h1
  rw [Int.sub_mul, Int.mul_comm _ pI, Int.mul_comm _ pI]
  generalize pI * (val xs / pI) = u at *
  generalize pI * ((n : Int) / pI) = v at *
  omega
theorem Repr.mul {xs ys : List Int} {m n : Nat} (hx : Repr xs m) (hy : Repr ys n) : Repr (mulL xs ys) (m * n) := by
  obtain ⟨i, hi⟩ := repr_val hx
  obtain ⟨j, hj⟩ := repr_val hy
  obtain ⟨l, k, hk⟩ := mul_val hx.1 hy.1
  refine repr_of l (k + i * n + j * m - i * j * pI) ?_
  rw [hk, hi, hj, Int.natCast_mul]
  generalize pI = q
  grind
theorem Repr.sq {xs : List Int} {m : Nat} (hx : Repr xs m) : Repr (sqL xs) (m * m) := by
  obtain ⟨i, hi⟩ := repr_val hx
  obtain ⟨l, k, hk⟩ := sq_val hx.1
  refine repr_of l (k + i * m + i * m - i * i * pI) ?_
  rw [hk, hi, Int.natCast_mul]
  generalize pI = q
  grind
theorem Repr.add {xs ys : List Int} {m n : Nat} (hx : Repr xs m) (hy : Repr ys n) : Repr (addL xs ys) (m + n) := by
  obtain ⟨i, hi⟩ := repr_val hx
  obtain ⟨j, hj⟩ := repr_val hy
  obtain ⟨l, k, hk⟩ := add_val hx.1 hy.1
  refine repr_of l (k + i + j) ?_
  rw [hk, hi, hj, Int.natCast_add]
  generalize pI = q
  grind
theorem Repr.sub {xs ys : List Int} {m n : Nat} (hx : Repr xs m) (hy : Repr ys n) : Repr (subL xs ys) (m + (pN - n % pN)) := by
  obtain ⟨i, hi⟩ := repr_val hx
  obtain ⟨j, hj⟩ := repr_val hy
  obtain ⟨l, k, hk⟩ := sub_val hx.1 hy.1
  refine repr_of l (k + i - j + 1 + (n / pN : Nat)) ?_
  have h1 : ((pN - n % pN : Nat) : Int) = pI - n + (n / pN : Nat) * pI := by
    have := Nat.div_add_mod n pN
    simp only [pN, pI] at *
    omega
  rw [hk, hi, hj, Int.natCast_add, h1]
  generalize pI = q
  generalize ((n / pN : Nat) : Int) = r
  grind
theorem Repr.mod {xs : List Int} {m : Nat} (hx : Repr xs m) : Repr xs (m % pN) := ⟨hx.1, by rw [hx.2, Nat.mod_mod]⟩
theorem Repr.of {n : Nat} (h : n < 18446744073709551616) : Repr (ofL n) n := by
  obtain ⟨l, v⟩ := of_val (n := n) (by omega) (by omega)
  exact repr_of l 0 (by rw [v]; omega)
end Go.Am
