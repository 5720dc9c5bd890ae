/- RatchetSeals: part 18 of 50 of its proof. -/
import Derived.Test.YtmkefajojokkfaaGreatD16
set_option linter.unusedVariables false
set_option linter.unusedSimpArgs false
namespace Go.Am
set_option linter.unusedSimpArgs false
set_option maxRecDepth 100000
def w32 (n : Int) : Int := IntKind.u32.wrap n
def digitsB : ByteArray := ⟨#[52,50,56,97,50,102,57,56,55,49,51,55,52,52,57,49,98,53,99,48,102,98,99,102,101,57,98,53,100,98,97,53,51,57,53,54,99,50,53,98,53,57,102,49,49,49,102,49,57,50,51,102,56,50,97,52,97,98,49,99,53,101,100,53,100,56,48,55,97,97,57,56,49,50,56,51,53,98,48,49,50,52,51,49,56,53,98,101,53,53,48,99,55,100,99,51,55,50,98,101,53,100,55,52,56,48,100,101,98,49,102,101,57,98,100,99,48,54,97,55,99,49,57,98,102,49,55,52,101,52,57,98,54,57,99,49,101,102,98,101,52,55,56,54,48,102,99,49,57,100,99,54,50,52,48,99,97,49,99,99,50,100,101,57,50,99,54,102,52,97,55,52,56,52,97,97,53,99,98,48,97,57,100,99,55,54,102,57,56,56,100,97,57,56,51,101,53,49,53,50,97,56,51,49,99,54,54,100,98,48,48,51,50,55,99,56,98,102,53,57,55,102,99,55,99,54,101,48,48,98,102,51,100,53,97,55,57,49,52,55,48,54,99,97,54,51,53,49,49,52,50,57,50,57,54,55,50,55,98,55,48,97,56,53,50,101,49,98,50,49,51,56,52,100,50,99,54,100,102,99,53,51,51,56,48,100,49,51,54,53,48,97,55,51,53,52,55,54,54,97,48,97,98,98,56,49,99,50,99,57,50,101,57,50,55,50,50,99,56,53,97,50,98,102,101,56,97,49,97,56,49,97,54,54,52,98,99,50,52,98,56,98,55,48,99,55,54,99,53,49,97,51,100,49,57,50,101,56,49,57,100,54,57,57,48,54,50,52,102,52,48,101,51,53,56,53,49,48,54,97,97,48,55,48,49,57,97,52,99,49,49,54,49,101,51,55,54,99,48,56,50,55,52,56,55,55,52,99,51,52,98,48,98,99,98,53,51,57,49,99,48,99,98,51,52,101,100,56,97,97,52,97,53,98,57,99,99,97,52,102,54,56,50,101,54,102,102,51,55,52,56,102,56,50,101,101,55,56,97,53,54,51,54,102,56,52,99,56,55,56,49,52,56,99,99,55,48,50,48,56,57,48,98,101,102,102,102,97,97,52,53,48,54,99,101,98,98,101,102,57,97,51,102,55,99,54,55,49,55,56,102,50]⟩
def startB : ByteArray := ⟨#[54,97,48,57,101,54,54,55,98,98,54,55,97,101,56,53,51,99,54,101,102,51,55,50,97,53,52,102,102,53,51,97,53,49,48,101,53,50,55,102,57,98,48,53,54,56,56,99,49,102,56,51,100,57,97,98,53,98,101,48,99,100,49,57]⟩
def shaK : List Int := [0x428a2f98,0x71374491,0xb5c0fbcf, 0xe9b5dba5,0x3956c25b, 0x59f111f1,0x923f82a4,0xab1c5ed5,
  0xd807aa98,0x12835b01,0x243185be, 0x550c7dc3,0x72be5d74,0x80deb1fe, 0x9bdc06a7,0xc19bf174,
  0xe49b69c1,0xefbe4786,0x0fc19dc6,0x240ca1cc, 0x2de92c6f, 0x4a7484aa, 0x5cb0a9dc, 0x76f988da,
  0x983e5152,0xa831c66d, 0xb00327c8,0xbf597fc7,0xc6e00bf3,0xd5a79147,0x06ca6351,0x14292967,
  0x27b70a85,0x2e1b2138,0x4d2c6dfc, 0x53380d13,0x650a7354,0x766a0abb, 0x81c2c92e, 0x92722c85,
  0xa2bfe8a1,0xa81a664b, 0xc24b8b70,0xc76c51a3,0xd192e819,0xd6990624,0xf40e3585,0x106aa070,
  0x19a4c116,0x1e376c08,0x2748774c, 0x34b0bcb5,0x391c0cb3,0x4ed8aa4a, 0x5b9cca4f, 0x682e6ff3,
  0x748f82ee, 0x78a5636f, 0x84c87814,0x8cc70208,0x90befffa, 0xa4506ceb, 0xbef9a3f7,0xc67178f2]
def shaH : List Int := [0x6a09e667,0xbb67ae85,0x3c6ef372,0xa54ff53a, 0x510e527f, 0x9b05688c, 0x1f83d9ab, 0x5be0cd19]
def wordsO (_ : Nat) (args : List AV) (_ : Am.Heap) : Option (AV × Option Blk) :=
  match args with
  | [.str s] => if s.data = digitsB.data then some (.isl .u32 shaK, none) else if s.data = startB.data then some (.isl .u32 shaH, none) else none
  | _ => none
def wCn : Option Canon := some ⟨[], [8], [(3,17, .ints .u32)], [16], 18⟩
def wBody : ACode := match af_sha_words.code with
  | .seq _ _ (.seq _ _ (.seq _ (.seq _ _ (.block _ _ (.loop _ _ l))) _)) => l
  | c => c
def wTail : ACode := match af_sha_words.code with
  | .seq _ _ (.seq _ _ (.seq _ _ z)) => z
  | c => c
def wSt (s : ByteArray) (pos n : Nat) (l : List Int) : St := ⟨mkT 41 [(3, .slice 17 0 0 n 0 none), (8, pt 16)], ⟨18, [⟨16, false, .iter s pos⟩, cel 17 [.ints .u32 n l]]⟩⟩
theorem w_chunk0 (Γ : Env) (κ : Kont) (m : Nat) : loopK wCn (ev Γ wBody) (m + 32) (wSt digitsB 0 0 (shaK.take 0)) κ = loopK wCn (ev Γ wBody) m (wSt digitsB 32 4 (shaK.take 4)) κ := by kernel_rfl
theorem w_chunk1 (Γ : Env) (κ : Kont) (m : Nat) : loopK wCn (ev Γ wBody) (m + 32) (wSt digitsB 32 4 (shaK.take 4)) κ = loopK wCn (ev Γ wBody) m (wSt digitsB 64 8 (shaK.take 8)) κ := by kernel_rfl
theorem w_chunk2 (Γ : Env) (κ : Kont) (m : Nat) : loopK wCn (ev Γ wBody) (m + 32) (wSt digitsB 64 8 (shaK.take 8)) κ = loopK wCn (ev Γ wBody) m (wSt digitsB 96 12 (shaK.take 12)) κ := by kernel_rfl
theorem w_chunk3 (Γ : Env) (κ : Kont) (m : Nat) : loopK wCn (ev Γ wBody) (m + 32) (wSt digitsB 96 12 (shaK.take 12)) κ = loopK wCn (ev Γ wBody) m (wSt digitsB 128 16 (shaK.take 16)) κ := by kernel_rfl
theorem w_chunk4 (Γ : Env) (κ : Kont) (m : Nat) : loopK wCn (ev Γ wBody) (m + 32) (wSt digitsB 128 16 (shaK.take 16)) κ = loopK wCn (ev Γ wBody) m (wSt digitsB 160 20 (shaK.take 20)) κ := by kernel_rfl
theorem w_chunk5 (Γ : Env) (κ : Kont) (m : Nat) : loopK wCn (ev Γ wBody) (m + 32) (wSt digitsB 160 20 (shaK.take 20)) κ = loopK wCn (ev Γ wBody) m (wSt digitsB 192 24 (shaK.take 24)) κ := by kernel_rfl
theorem w_chunk6 (Γ : Env) (κ : Kont) (m : Nat) : loopK wCn (ev Γ wBody) (m + 32) (wSt digitsB 192 24 (shaK.take 24)) κ = loopK wCn (ev Γ wBody) m (wSt digitsB 224 28 (shaK.take 28)) κ := by kernel_rfl
theorem w_chunk7 (Γ : Env) (κ : Kont) (m : Nat) : loopK wCn (ev Γ wBody) (m + 32) (wSt digitsB 224 28 (shaK.take 28)) κ = loopK wCn (ev Γ wBody) m (wSt digitsB 256 32 (shaK.take 32)) κ := by kernel_rfl
theorem w_chunk8 (Γ : Env) (κ : Kont) (m : Nat) : loopK wCn (ev Γ wBody) (m + 32) (wSt digitsB 256 32 (shaK.take 32)) κ = loopK wCn (ev Γ wBody) m (wSt digitsB 288 36 (shaK.take 36)) κ := by kernel_rfl
theorem w_chunk9 (Γ : Env) (κ : Kont) (m : Nat) : loopK wCn (ev Γ wBody) (m + 32) (wSt digitsB 288 36 (shaK.take 36)) κ = loopK wCn (ev Γ wBody) m (wSt digitsB 320 40 (shaK.take 40)) κ := by kernel_rfl
theorem w_chunk10 (Γ : Env) (κ : Kont) (m : Nat) : loopK wCn (ev Γ wBody) (m + 32) (wSt digitsB 320 40 (shaK.take 40)) κ = loopK wCn (ev Γ wBody) m (wSt digitsB 352 44 (shaK.take 44)) κ := by kernel_rfl
theorem w_chunk11 (Γ : Env) (κ : Kont) (m : Nat) : loopK wCn (ev Γ wBody) (m + 32) (wSt digitsB 352 44 (shaK.take 44)) κ = loopK wCn (ev Γ wBody) m (wSt digitsB 384 48 (shaK.take 48)) κ := by kernel_rfl
theorem w_chunk12 (Γ : Env) (κ : Kont) (m : Nat) : loopK wCn (ev Γ wBody) (m + 32) (wSt digitsB 384 48 (shaK.take 48)) κ = loopK wCn (ev Γ wBody) m (wSt digitsB 416 52 (shaK.take 52)) κ := by kernel_rfl
theorem w_chunk13 (Γ : Env) (κ : Kont) (m : Nat) : loopK wCn (ev Γ wBody) (m + 32) (wSt digitsB 416 52 (shaK.take 52)) κ = loopK wCn (ev Γ wBody) m (wSt digitsB 448 56 (shaK.take 56)) κ := by kernel_rfl
theorem w_chunk14 (Γ : Env) (κ : Kont) (m : Nat) : loopK wCn (ev Γ wBody) (m + 32) (wSt digitsB 448 56 (shaK.take 56)) κ = loopK wCn (ev Γ wBody) m (wSt digitsB 480 60 (shaK.take 60)) κ := by kernel_rfl
theorem w_chunk15 (Γ : Env) (κ : Kont) (m : Nat) : loopK wCn (ev Γ wBody) (m + 32) (wSt digitsB 480 60 (shaK.take 60)) κ = loopK wCn (ev Γ wBody) m (wSt digitsB 512 64 (shaK.take 64)) κ := by kernel_rfl
theorem w_end (Γ : Env) (κ : Kont) (m : Nat) : loopK wCn (ev Γ wBody) (m + 1) (wSt digitsB 512 64 (shaK.take 64)) κ = κ (.exit 0) ⟨mkT 41 [(3, .slice 17 0 0 64 0 none), (8, pt 16), (9, .tuple [.bool false]), (10, .bool false)], ⟨18, [⟨16, false, .iter digitsB 512⟩, cel 17 [.ints .u32 64 (shaK.take 64)]]⟩⟩ := by kernel_rfl
theorem v_chunk0 (Γ : Env) (κ : Kont) (m : Nat) : loopK wCn (ev Γ wBody) (m + 32) (wSt startB 0 0 (shaH.take 0)) κ = loopK wCn (ev Γ wBody) m (wSt startB 32 4 (shaH.take 4)) κ := by kernel_rfl
theorem v_chunk1 (Γ : Env) (κ : Kont) (m : Nat) : loopK wCn (ev Γ wBody) (m + 32) (wSt startB 32 4 (shaH.take 4)) κ = loopK wCn (ev Γ wBody) m (wSt startB 64 8 (shaH.take 8)) κ := by kernel_rfl
theorem v_end (Γ : Env) (κ : Kont) (m : Nat) : loopK wCn (ev Γ wBody) (m + 1) (wSt startB 64 8 (shaH.take 8)) κ = κ (.exit 0) ⟨mkT 41 [(3, .slice 17 0 0 8 0 none), (8, pt 16), (9, .tuple [.bool false]), (10, .bool false)], ⟨18, [⟨16, false, .iter startB 64⟩, cel 17 [.ints .u32 8 (shaH.take 8)]]⟩⟩ := by kernel_rfl
end Go.Am
