import Derived.Test.YtdnhoocoofnibaaVmLift
import Derived.Test.YtdnhoocoofnibaaCodeI
namespace Go.Vm.Code
open Go Go.Vm Go.Proofs
set_option maxRecDepth 100000
set_option maxHeartbeats 4000000
set_option linter.unusedVariables false
@[ext] structure icmp_Message where
  Kind : Int
  Code : Int
  MTU : Int
  Quote : List UInt8
  deriving DecidableEq
@[ext] structure api_Addr where
  V6 : Bool
  Hi : Int
  Lo : Int
  deriving DecidableEq
@[ext] structure octet_Reader where
  s : List UInt8
  made : Bool
  bad : Bool
  deriving DecidableEq
@[ext] structure Arr2_Int where
  e0 : Int
  e1 : Int
  deriving DecidableEq
@[ext] structure Arr4_Arr2_Int where
  e0 : Arr2_Int
  e1 : Arr2_Int
  e2 : Arr2_Int
  e3 : Arr2_Int
  deriving DecidableEq
@[ext] structure runtime_errorAddressString where
  msg : List UInt8
  addr : Int
  deriving DecidableEq
@[ext] structure udp_Head where
  SPort : Int
  DPort : Int
  deriving DecidableEq
@[ext] structure ipsix_Head where
  Class : Int
  Label : Int
  Next : Int
  Hop : Int
  Src : api_Addr
  Dst : api_Addr
  deriving DecidableEq
@[ext] structure ipfour_Head where
  Class : Int
  Mark : Int
  Whole : Bool
  TTL : Int
  Proto : Int
  Src : api_Addr
  Dst : api_Addr
  Options : List UInt8
  deriving DecidableEq
@[ext] structure api_Tuple where
  Proto : Int
  Src : api_Addr
  Dst : api_Addr
  SPort : Int
  DPort : Int
  deriving DecidableEq
@[ext] structure tcp_Head where
  SPort : Int
  DPort : Int
  Seq : Int
  Ack : Int
  Flags : Int
  Window : Int
  Urgent : Int
  Options : List UInt8
  deriving DecidableEq
def cicmp_Message (x : icmp_Message) : List Value := [.int .i64 x.Kind, .int .i64 x.Code, .int .i64 x.MTU, .string ⟨⟨x.Quote⟩⟩]
theorem cicmp_Message_len (x : icmp_Message) : (cicmp_Message x).length = 4 := rfl
theorem cicmp_Message_flat (x : icmp_Message) : flatV.flatL (cicmp_Message x) = true := rfl
theorem cicmp_Message_one (x : icmp_Message) : (cicmp_Message x).all oneC = true := rfl
@[simp] theorem cicmp_Message_lens (xs : List icmp_Message) : (vT cicmp_Message xs).length = xs.length * 4 := vT_len cicmp_Message_len xs
@[simp] theorem cicmp_Message_take (xs : List icmp_Message) (n : Nat) : (vT cicmp_Message xs).take (n * 4) = vT cicmp_Message (xs.take n) := vT_take cicmp_Message_len xs n
@[simp] theorem cicmp_Message_drop (xs : List icmp_Message) (n : Nat) : (vT cicmp_Message xs).drop (n * 4) = vT cicmp_Message (xs.drop n) := vT_drop cicmp_Message_len xs n
def unicmp_Message : List Value → Option icmp_Message
  | [.int .i64 a1, .int .i64 a2, .int .i64 a3, .string ⟨⟨a4⟩⟩] => some (icmp_Message.mk a1 a2 a3 a4)
  | _ => none
theorem unicmp_Message_eq (cs : List Value) (x : icmp_Message) (h : unicmp_Message cs = some x) : cs = cicmp_Message x := by
  unfold unicmp_Message at h; split at h
  · cases h; rfl
  · cases h
theorem unicmp_Message_c (x : icmp_Message) : unicmp_Message (cicmp_Message x) = some x := rfl
def uvicmp_Message : Value → Option icmp_Message
  | .agg ⟨cs⟩ => unicmp_Message cs
  | _ => none
theorem uvicmp_Message_eq (v : Value) (x : icmp_Message) (h : uvicmp_Message v = some x) : v = .agg ⟨cicmp_Message x⟩ := by
  unfold uvicmp_Message at h; split at h
  · rw [unicmp_Message_eq _ _ h]
  · cases h
theorem uvicmp_Message_c (x : icmp_Message) : uvicmp_Message (.agg ⟨cicmp_Message x⟩) = some x := rfl
def capi_Addr (x : api_Addr) : List Value := [.bool x.V6, .int .u64 x.Hi, .int .u64 x.Lo]
theorem capi_Addr_len (x : api_Addr) : (capi_Addr x).length = 3 := rfl
theorem capi_Addr_flat (x : api_Addr) : flatV.flatL (capi_Addr x) = true := rfl
theorem capi_Addr_one (x : api_Addr) : (capi_Addr x).all oneC = true := rfl
@[simp] theorem capi_Addr_lens (xs : List api_Addr) : (vT capi_Addr xs).length = xs.length * 3 := vT_len capi_Addr_len xs
@[simp] theorem capi_Addr_take (xs : List api_Addr) (n : Nat) : (vT capi_Addr xs).take (n * 3) = vT capi_Addr (xs.take n) := vT_take capi_Addr_len xs n
@[simp] theorem capi_Addr_drop (xs : List api_Addr) (n : Nat) : (vT capi_Addr xs).drop (n * 3) = vT capi_Addr (xs.drop n) := vT_drop capi_Addr_len xs n
def unapi_Addr : List Value → Option api_Addr
  | [.bool a1, .int .u64 a2, .int .u64 a3] => some (api_Addr.mk a1 a2 a3)
  | _ => none
theorem unapi_Addr_eq (cs : List Value) (x : api_Addr) (h : unapi_Addr cs = some x) : cs = capi_Addr x := by
  unfold unapi_Addr at h; split at h
  · cases h; rfl
  · cases h
theorem unapi_Addr_c (x : api_Addr) : unapi_Addr (capi_Addr x) = some x := rfl
def uvapi_Addr : Value → Option api_Addr
  | .agg ⟨cs⟩ => unapi_Addr cs
  | _ => none
theorem uvapi_Addr_eq (v : Value) (x : api_Addr) (h : uvapi_Addr v = some x) : v = .agg ⟨capi_Addr x⟩ := by
  unfold uvapi_Addr at h; split at h
  · rw [unapi_Addr_eq _ _ h]
  · cases h
theorem uvapi_Addr_c (x : api_Addr) : uvapi_Addr (.agg ⟨capi_Addr x⟩) = some x := rfl
def coctet_Reader (x : octet_Reader) : List Value := [.string ⟨⟨x.s⟩⟩, .bool x.made, .bool x.bad]
theorem coctet_Reader_len (x : octet_Reader) : (coctet_Reader x).length = 3 := rfl
theorem coctet_Reader_flat (x : octet_Reader) : flatV.flatL (coctet_Reader x) = true := rfl
theorem coctet_Reader_one (x : octet_Reader) : (coctet_Reader x).all oneC = true := rfl
@[simp] theorem coctet_Reader_lens (xs : List octet_Reader) : (vT coctet_Reader xs).length = xs.length * 3 := vT_len coctet_Reader_len xs
@[simp] theorem coctet_Reader_take (xs : List octet_Reader) (n : Nat) : (vT coctet_Reader xs).take (n * 3) = vT coctet_Reader (xs.take n) := vT_take coctet_Reader_len xs n
@[simp] theorem coctet_Reader_drop (xs : List octet_Reader) (n : Nat) : (vT coctet_Reader xs).drop (n * 3) = vT coctet_Reader (xs.drop n) := vT_drop coctet_Reader_len xs n
def unoctet_Reader : List Value → Option octet_Reader
  | [.string ⟨⟨a1⟩⟩, .bool a2, .bool a3] => some (octet_Reader.mk a1 a2 a3)
  | _ => none
theorem unoctet_Reader_eq (cs : List Value) (x : octet_Reader) (h : unoctet_Reader cs = some x) : cs = coctet_Reader x := by
  unfold unoctet_Reader at h; split at h
  · cases h; rfl
  · cases h
theorem unoctet_Reader_c (x : octet_Reader) : unoctet_Reader (coctet_Reader x) = some x := rfl
def uvoctet_Reader : Value → Option octet_Reader
  | .agg ⟨cs⟩ => unoctet_Reader cs
  | _ => none
theorem uvoctet_Reader_eq (v : Value) (x : octet_Reader) (h : uvoctet_Reader v = some x) : v = .agg ⟨coctet_Reader x⟩ := by
  unfold uvoctet_Reader at h; split at h
  · rw [unoctet_Reader_eq _ _ h]
  · cases h
theorem uvoctet_Reader_c (x : octet_Reader) : uvoctet_Reader (.agg ⟨coctet_Reader x⟩) = some x := rfl
def cArr2_Int (x : Arr2_Int) : List Value := [.int .i64 x.e0, .int .i64 x.e1]
theorem cArr2_Int_len (x : Arr2_Int) : (cArr2_Int x).length = 2 := rfl
theorem cArr2_Int_flat (x : Arr2_Int) : flatV.flatL (cArr2_Int x) = true := rfl
theorem cArr2_Int_one (x : Arr2_Int) : (cArr2_Int x).all oneC = true := rfl
@[simp] theorem cArr2_Int_lens (xs : List Arr2_Int) : (vT cArr2_Int xs).length = xs.length * 2 := vT_len cArr2_Int_len xs
@[simp] theorem cArr2_Int_take (xs : List Arr2_Int) (n : Nat) : (vT cArr2_Int xs).take (n * 2) = vT cArr2_Int (xs.take n) := vT_take cArr2_Int_len xs n
@[simp] theorem cArr2_Int_drop (xs : List Arr2_Int) (n : Nat) : (vT cArr2_Int xs).drop (n * 2) = vT cArr2_Int (xs.drop n) := vT_drop cArr2_Int_len xs n
def unArr2_Int : List Value → Option Arr2_Int
  | [.int .i64 a1, .int .i64 a2] => some (Arr2_Int.mk a1 a2)
  | _ => none
theorem unArr2_Int_eq (cs : List Value) (x : Arr2_Int) (h : unArr2_Int cs = some x) : cs = cArr2_Int x := by
  unfold unArr2_Int at h; split at h
  · cases h; rfl
  · cases h
theorem unArr2_Int_c (x : Arr2_Int) : unArr2_Int (cArr2_Int x) = some x := rfl
def uvArr2_Int : Value → Option Arr2_Int
  | .agg ⟨cs⟩ => unArr2_Int cs
  | _ => none
theorem uvArr2_Int_eq (v : Value) (x : Arr2_Int) (h : uvArr2_Int v = some x) : v = .agg ⟨cArr2_Int x⟩ := by
  unfold uvArr2_Int at h; split at h
  · rw [unArr2_Int_eq _ _ h]
  · cases h
theorem uvArr2_Int_c (x : Arr2_Int) : uvArr2_Int (.agg ⟨cArr2_Int x⟩) = some x := rfl
def cArr4_Arr2_Int (x : Arr4_Arr2_Int) : List Value := [.int .i64 x.e0.e0, .int .i64 x.e0.e1, .int .i64 x.e1.e0, .int .i64 x.e1.e1, .int .i64 x.e2.e0, .int .i64 x.e2.e1, .int .i64 x.e3.e0, .int .i64 x.e3.e1]
theorem cArr4_Arr2_Int_len (x : Arr4_Arr2_Int) : (cArr4_Arr2_Int x).length = 8 := rfl
theorem cArr4_Arr2_Int_flat (x : Arr4_Arr2_Int) : flatV.flatL (cArr4_Arr2_Int x) = true := rfl
theorem cArr4_Arr2_Int_one (x : Arr4_Arr2_Int) : (cArr4_Arr2_Int x).all oneC = true := rfl
@[simp] theorem cArr4_Arr2_Int_lens (xs : List Arr4_Arr2_Int) : (vT cArr4_Arr2_Int xs).length = xs.length * 8 := vT_len cArr4_Arr2_Int_len xs
@[simp] theorem cArr4_Arr2_Int_take (xs : List Arr4_Arr2_Int) (n : Nat) : (vT cArr4_Arr2_Int xs).take (n * 8) = vT cArr4_Arr2_Int (xs.take n) := vT_take cArr4_Arr2_Int_len xs n
@[simp] theorem cArr4_Arr2_Int_drop (xs : List Arr4_Arr2_Int) (n : Nat) : (vT cArr4_Arr2_Int xs).drop (n * 8) = vT cArr4_Arr2_Int (xs.drop n) := vT_drop cArr4_Arr2_Int_len xs n
def unArr4_Arr2_Int : List Value → Option Arr4_Arr2_Int
  | [.int .i64 a1, .int .i64 a2, .int .i64 a3, .int .i64 a4, .int .i64 a5, .int .i64 a6, .int .i64 a7, .int .i64 a8] => some (Arr4_Arr2_Int.mk (Arr2_Int.mk a1 a2) (Arr2_Int.mk a3 a4) (Arr2_Int.mk a5 a6) (Arr2_Int.mk a7 a8))
  | _ => none
theorem unArr4_Arr2_Int_eq (cs : List Value) (x : Arr4_Arr2_Int) (h : unArr4_Arr2_Int cs = some x) : cs = cArr4_Arr2_Int x := by
  unfold unArr4_Arr2_Int at h; split at h
  · cases h; rfl
  · cases h
theorem unArr4_Arr2_Int_c (x : Arr4_Arr2_Int) : unArr4_Arr2_Int (cArr4_Arr2_Int x) = some x := rfl
def uvArr4_Arr2_Int : Value → Option Arr4_Arr2_Int
  | .agg ⟨cs⟩ => unArr4_Arr2_Int cs
  | _ => none
theorem uvArr4_Arr2_Int_eq (v : Value) (x : Arr4_Arr2_Int) (h : uvArr4_Arr2_Int v = some x) : v = .agg ⟨cArr4_Arr2_Int x⟩ := by
  unfold uvArr4_Arr2_Int at h; split at h
  · rw [unArr4_Arr2_Int_eq _ _ h]
  · cases h
theorem uvArr4_Arr2_Int_c (x : Arr4_Arr2_Int) : uvArr4_Arr2_Int (.agg ⟨cArr4_Arr2_Int x⟩) = some x := rfl
def cruntime_errorAddressString (x : runtime_errorAddressString) : List Value := [.string ⟨⟨x.msg⟩⟩, .int .u64 x.addr]
theorem cruntime_errorAddressString_len (x : runtime_errorAddressString) : (cruntime_errorAddressString x).length = 2 := rfl
theorem cruntime_errorAddressString_flat (x : runtime_errorAddressString) : flatV.flatL (cruntime_errorAddressString x) = true := rfl
theorem cruntime_errorAddressString_one (x : runtime_errorAddressString) : (cruntime_errorAddressString x).all oneC = true := rfl
@[simp] theorem cruntime_errorAddressString_lens (xs : List runtime_errorAddressString) : (vT cruntime_errorAddressString xs).length = xs.length * 2 := vT_len cruntime_errorAddressString_len xs
@[simp] theorem cruntime_errorAddressString_take (xs : List runtime_errorAddressString) (n : Nat) : (vT cruntime_errorAddressString xs).take (n * 2) = vT cruntime_errorAddressString (xs.take n) := vT_take cruntime_errorAddressString_len xs n
@[simp] theorem cruntime_errorAddressString_drop (xs : List runtime_errorAddressString) (n : Nat) : (vT cruntime_errorAddressString xs).drop (n * 2) = vT cruntime_errorAddressString (xs.drop n) := vT_drop cruntime_errorAddressString_len xs n
def unruntime_errorAddressString : List Value → Option runtime_errorAddressString
  | [.string ⟨⟨a1⟩⟩, .int .u64 a2] => some (runtime_errorAddressString.mk a1 a2)
  | _ => none
theorem unruntime_errorAddressString_eq (cs : List Value) (x : runtime_errorAddressString) (h : unruntime_errorAddressString cs = some x) : cs = cruntime_errorAddressString x := by
  unfold unruntime_errorAddressString at h; split at h
  · cases h; rfl
  · cases h
theorem unruntime_errorAddressString_c (x : runtime_errorAddressString) : unruntime_errorAddressString (cruntime_errorAddressString x) = some x := rfl
def uvruntime_errorAddressString : Value → Option runtime_errorAddressString
  | .agg ⟨cs⟩ => unruntime_errorAddressString cs
  | _ => none
theorem uvruntime_errorAddressString_eq (v : Value) (x : runtime_errorAddressString) (h : uvruntime_errorAddressString v = some x) : v = .agg ⟨cruntime_errorAddressString x⟩ := by
  unfold uvruntime_errorAddressString at h; split at h
  · rw [unruntime_errorAddressString_eq _ _ h]
  · cases h
theorem uvruntime_errorAddressString_c (x : runtime_errorAddressString) : uvruntime_errorAddressString (.agg ⟨cruntime_errorAddressString x⟩) = some x := rfl
def cudp_Head (x : udp_Head) : List Value := [.int .i64 x.SPort, .int .i64 x.DPort]
theorem cudp_Head_len (x : udp_Head) : (cudp_Head x).length = 2 := rfl
theorem cudp_Head_flat (x : udp_Head) : flatV.flatL (cudp_Head x) = true := rfl
theorem cudp_Head_one (x : udp_Head) : (cudp_Head x).all oneC = true := rfl
@[simp] theorem cudp_Head_lens (xs : List udp_Head) : (vT cudp_Head xs).length = xs.length * 2 := vT_len cudp_Head_len xs
@[simp] theorem cudp_Head_take (xs : List udp_Head) (n : Nat) : (vT cudp_Head xs).take (n * 2) = vT cudp_Head (xs.take n) := vT_take cudp_Head_len xs n
@[simp] theorem cudp_Head_drop (xs : List udp_Head) (n : Nat) : (vT cudp_Head xs).drop (n * 2) = vT cudp_Head (xs.drop n) := vT_drop cudp_Head_len xs n
def unudp_Head : List Value → Option udp_Head
  | [.int .i64 a1, .int .i64 a2] => some (udp_Head.mk a1 a2)
  | _ => none
theorem unudp_Head_eq (cs : List Value) (x : udp_Head) (h : unudp_Head cs = some x) : cs = cudp_Head x := by
  unfold unudp_Head at h; split at h
  · cases h; rfl
  · cases h
theorem unudp_Head_c (x : udp_Head) : unudp_Head (cudp_Head x) = some x := rfl
def uvudp_Head : Value → Option udp_Head
  | .agg ⟨cs⟩ => unudp_Head cs
  | _ => none
theorem uvudp_Head_eq (v : Value) (x : udp_Head) (h : uvudp_Head v = some x) : v = .agg ⟨cudp_Head x⟩ := by
  unfold uvudp_Head at h; split at h
  · rw [unudp_Head_eq _ _ h]
  · cases h
theorem uvudp_Head_c (x : udp_Head) : uvudp_Head (.agg ⟨cudp_Head x⟩) = some x := rfl
def cipsix_Head (x : ipsix_Head) : List Value := [.int .i64 x.Class, .int .i64 x.Label, .int .i64 x.Next, .int .i64 x.Hop, .bool x.Src.V6, .int .u64 x.Src.Hi, .int .u64 x.Src.Lo, .bool x.Dst.V6, .int .u64 x.Dst.Hi, .int .u64 x.Dst.Lo]
theorem cipsix_Head_len (x : ipsix_Head) : (cipsix_Head x).length = 10 := rfl
theorem cipsix_Head_flat (x : ipsix_Head) : flatV.flatL (cipsix_Head x) = true := rfl
theorem cipsix_Head_one (x : ipsix_Head) : (cipsix_Head x).all oneC = true := rfl
@[simp] theorem cipsix_Head_lens (xs : List ipsix_Head) : (vT cipsix_Head xs).length = xs.length * 10 := vT_len cipsix_Head_len xs
@[simp] theorem cipsix_Head_take (xs : List ipsix_Head) (n : Nat) : (vT cipsix_Head xs).take (n * 10) = vT cipsix_Head (xs.take n) := vT_take cipsix_Head_len xs n
@[simp] theorem cipsix_Head_drop (xs : List ipsix_Head) (n : Nat) : (vT cipsix_Head xs).drop (n * 10) = vT cipsix_Head (xs.drop n) := vT_drop cipsix_Head_len xs n
def unipsix_Head : List Value → Option ipsix_Head
  | [.int .i64 a1, .int .i64 a2, .int .i64 a3, .int .i64 a4, .bool a5, .int .u64 a6, .int .u64 a7, .bool a8, .int .u64 a9, .int .u64 a10] => some (ipsix_Head.mk a1 a2 a3 a4 (api_Addr.mk a5 a6 a7) (api_Addr.mk a8 a9 a10))
  | _ => none
theorem unipsix_Head_eq (cs : List Value) (x : ipsix_Head) (h : unipsix_Head cs = some x) : cs = cipsix_Head x := by
  unfold unipsix_Head at h; split at h
  · cases h; rfl
  · cases h
theorem unipsix_Head_c (x : ipsix_Head) : unipsix_Head (cipsix_Head x) = some x := rfl
def uvipsix_Head : Value → Option ipsix_Head
  | .agg ⟨cs⟩ => unipsix_Head cs
  | _ => none
theorem uvipsix_Head_eq (v : Value) (x : ipsix_Head) (h : uvipsix_Head v = some x) : v = .agg ⟨cipsix_Head x⟩ := by
  unfold uvipsix_Head at h; split at h
  · rw [unipsix_Head_eq _ _ h]
  · cases h
theorem uvipsix_Head_c (x : ipsix_Head) : uvipsix_Head (.agg ⟨cipsix_Head x⟩) = some x := rfl
def cipfour_Head (x : ipfour_Head) : List Value := [.int .i64 x.Class, .int .i64 x.Mark, .bool x.Whole, .int .i64 x.TTL, .int .i64 x.Proto, .bool x.Src.V6, .int .u64 x.Src.Hi, .int .u64 x.Src.Lo, .bool x.Dst.V6, .int .u64 x.Dst.Hi, .int .u64 x.Dst.Lo, .string ⟨⟨x.Options⟩⟩]
theorem cipfour_Head_len (x : ipfour_Head) : (cipfour_Head x).length = 12 := rfl
theorem cipfour_Head_flat (x : ipfour_Head) : flatV.flatL (cipfour_Head x) = true := rfl
theorem cipfour_Head_one (x : ipfour_Head) : (cipfour_Head x).all oneC = true := rfl
@[simp] theorem cipfour_Head_lens (xs : List ipfour_Head) : (vT cipfour_Head xs).length = xs.length * 12 := vT_len cipfour_Head_len xs
@[simp] theorem cipfour_Head_take (xs : List ipfour_Head) (n : Nat) : (vT cipfour_Head xs).take (n * 12) = vT cipfour_Head (xs.take n) := vT_take cipfour_Head_len xs n
@[simp] theorem cipfour_Head_drop (xs : List ipfour_Head) (n : Nat) : (vT cipfour_Head xs).drop (n * 12) = vT cipfour_Head (xs.drop n) := vT_drop cipfour_Head_len xs n
def unipfour_Head : List Value → Option ipfour_Head
  | [.int .i64 a1, .int .i64 a2, .bool a3, .int .i64 a4, .int .i64 a5, .bool a6, .int .u64 a7, .int .u64 a8, .bool a9, .int .u64 a10, .int .u64 a11, .string ⟨⟨a12⟩⟩] => some (ipfour_Head.mk a1 a2 a3 a4 a5 (api_Addr.mk a6 a7 a8) (api_Addr.mk a9 a10 a11) a12)
  | _ => none
theorem unipfour_Head_eq (cs : List Value) (x : ipfour_Head) (h : unipfour_Head cs = some x) : cs = cipfour_Head x := by
  unfold unipfour_Head at h; split at h
  · cases h; rfl
  · cases h
theorem unipfour_Head_c (x : ipfour_Head) : unipfour_Head (cipfour_Head x) = some x := rfl
def uvipfour_Head : Value → Option ipfour_Head
  | .agg ⟨cs⟩ => unipfour_Head cs
  | _ => none
theorem uvipfour_Head_eq (v : Value) (x : ipfour_Head) (h : uvipfour_Head v = some x) : v = .agg ⟨cipfour_Head x⟩ := by
  unfold uvipfour_Head at h; split at h
  · rw [unipfour_Head_eq _ _ h]
  · cases h
theorem uvipfour_Head_c (x : ipfour_Head) : uvipfour_Head (.agg ⟨cipfour_Head x⟩) = some x := rfl
def capi_Tuple (x : api_Tuple) : List Value := [.int .i64 x.Proto, .bool x.Src.V6, .int .u64 x.Src.Hi, .int .u64 x.Src.Lo, .bool x.Dst.V6, .int .u64 x.Dst.Hi, .int .u64 x.Dst.Lo, .int .i64 x.SPort, .int .i64 x.DPort]
theorem capi_Tuple_len (x : api_Tuple) : (capi_Tuple x).length = 9 := rfl
theorem capi_Tuple_flat (x : api_Tuple) : flatV.flatL (capi_Tuple x) = true := rfl
theorem capi_Tuple_one (x : api_Tuple) : (capi_Tuple x).all oneC = true := rfl
@[simp] theorem capi_Tuple_lens (xs : List api_Tuple) : (vT capi_Tuple xs).length = xs.length * 9 := vT_len capi_Tuple_len xs
@[simp] theorem capi_Tuple_take (xs : List api_Tuple) (n : Nat) : (vT capi_Tuple xs).take (n * 9) = vT capi_Tuple (xs.take n) := vT_take capi_Tuple_len xs n
@[simp] theorem capi_Tuple_drop (xs : List api_Tuple) (n : Nat) : (vT capi_Tuple xs).drop (n * 9) = vT capi_Tuple (xs.drop n) := vT_drop capi_Tuple_len xs n
def unapi_Tuple : List Value → Option api_Tuple
  | [.int .i64 a1, .bool a2, .int .u64 a3, .int .u64 a4, .bool a5, .int .u64 a6, .int .u64 a7, .int .i64 a8, .int .i64 a9] => some (api_Tuple.mk a1 (api_Addr.mk a2 a3 a4) (api_Addr.mk a5 a6 a7) a8 a9)
  | _ => none
theorem unapi_Tuple_eq (cs : List Value) (x : api_Tuple) (h : unapi_Tuple cs = some x) : cs = capi_Tuple x := by
  unfold unapi_Tuple at h; split at h
  · cases h; rfl
  · cases h
theorem unapi_Tuple_c (x : api_Tuple) : unapi_Tuple (capi_Tuple x) = some x := rfl
def uvapi_Tuple : Value → Option api_Tuple
  | .agg ⟨cs⟩ => unapi_Tuple cs
  | _ => none
theorem uvapi_Tuple_eq (v : Value) (x : api_Tuple) (h : uvapi_Tuple v = some x) : v = .agg ⟨capi_Tuple x⟩ := by
  unfold uvapi_Tuple at h; split at h
  · rw [unapi_Tuple_eq _ _ h]
  · cases h
theorem uvapi_Tuple_c (x : api_Tuple) : uvapi_Tuple (.agg ⟨capi_Tuple x⟩) = some x := rfl
def ctcp_Head (x : tcp_Head) : List Value := [.int .i64 x.SPort, .int .i64 x.DPort, .int .u32 x.Seq, .int .u32 x.Ack, .int .i64 x.Flags, .int .i64 x.Window, .int .i64 x.Urgent, .string ⟨⟨x.Options⟩⟩]
theorem ctcp_Head_len (x : tcp_Head) : (ctcp_Head x).length = 8 := rfl
theorem ctcp_Head_flat (x : tcp_Head) : flatV.flatL (ctcp_Head x) = true := rfl
theorem ctcp_Head_one (x : tcp_Head) : (ctcp_Head x).all oneC = true := rfl
@[simp] theorem ctcp_Head_lens (xs : List tcp_Head) : (vT ctcp_Head xs).length = xs.length * 8 := vT_len ctcp_Head_len xs
@[simp] theorem ctcp_Head_take (xs : List tcp_Head) (n : Nat) : (vT ctcp_Head xs).take (n * 8) = vT ctcp_Head (xs.take n) := vT_take ctcp_Head_len xs n
@[simp] theorem ctcp_Head_drop (xs : List tcp_Head) (n : Nat) : (vT ctcp_Head xs).drop (n * 8) = vT ctcp_Head (xs.drop n) := vT_drop ctcp_Head_len xs n
def untcp_Head : List Value → Option tcp_Head
  | [.int .i64 a1, .int .i64 a2, .int .u32 a3, .int .u32 a4, .int .i64 a5, .int .i64 a6, .int .i64 a7, .string ⟨⟨a8⟩⟩] => some (tcp_Head.mk a1 a2 a3 a4 a5 a6 a7 a8)
  | _ => none
theorem untcp_Head_eq (cs : List Value) (x : tcp_Head) (h : untcp_Head cs = some x) : cs = ctcp_Head x := by
  unfold untcp_Head at h; split at h
  · cases h; rfl
  · cases h
theorem untcp_Head_c (x : tcp_Head) : untcp_Head (ctcp_Head x) = some x := rfl
def uvtcp_Head : Value → Option tcp_Head
  | .agg ⟨cs⟩ => untcp_Head cs
  | _ => none
theorem uvtcp_Head_eq (v : Value) (x : tcp_Head) (h : uvtcp_Head v = some x) : v = .agg ⟨ctcp_Head x⟩ := by
  unfold uvtcp_Head at h; split at h
  · rw [untcp_Head_eq _ _ h]
  · cases h
theorem uvtcp_Head_c (x : tcp_Head) : uvtcp_Head (.agg ⟨ctcp_Head x⟩) = some x := rfl
def check_fold_s1 (n1 : Int) : Option (Sum Int Int) :=
  cond (decide (n1 > 65535))
    (
    let t := wI .i64 ((andI .i64 n1 65535) + (n1.fdiv (2 ^ 16)))
    some (.inl t))
    (
    some (.inr (n1)))
def check_foldF (n : Int) : Option Int :=
  iter (fun st => check_fold_s1 st) FUEL n
def rx131 (x : Int) : SRes := ⟨.int .i64 x, [], []⟩
def r131 (g : Int → Option Int) : Dec := dV (asI .i64) fun (y0 : Int) => dEnd (ofG (g y0) rx131)
theorem r131_c {g : Int → Option Int} {y0 : Int} {x : Int} (hx : g y0 = some x) : r131 g [.int .i64 y0] [] = some (rx131 x) := (dV_eq (asI_c _)).trans (ofG_eq hx)
def s131 (g : Int → Option Int) : Summ := ⟨[.v], r131 g⟩
theorem r131_eq {g : Int → Option Int} {y0 : Int} {x : Int} (hx : g y0 = some x) : (s131 g).run [.int .i64 y0] [] = some (rx131 x) := r131_c hx
abbrev sums131 : List (Nat × Summ) := []
def head131_1 (n1 : Int) : VM :=
  ⟨⟨131, 11, [(0, .int .i64 n1)], [.code k131_6, .inLoop k131_6, .inBlock 0, .code k131_10], [], false, none⟩, [], [], 0⟩
theorem loop131_1 (hS : SumsOK Try.prog (aget (sums131))) (res : Int) : ∀ fuel (st : Int) (o : Int), iter (fun st => check_fold_s1 st) fuel st = some o → (o = res) →
    Leads Try.prog 131 0 (head131_1 st) (fun v H _ => Res 0 (rx131 res) v H) := by
  intro fuel st o h hc
  refine iter_leads (head := fun st => head131_1 st) (C := fun o => (o = res)) ?_ fuel st o h hc
  clear h hc o st fuel
  intro n1 o h hc
  replace h : check_fold_s1 n1 = some o := h
  show Leads Try.prog 131 0 (head131_1 n1) (fun v H _ => Res 0 (rx131 res) v H)
  unfold check_fold_s1 at h
  refine ev_ok tab_ok hS true 3000 ?_
  conv => whnf
  refine br.h2 h ?_ ?_ ?_
  · rfl
  · clear h; intro hb h; conv => whnf
    all_goals (cases h; cases hc; exact Res.z rfl rfl rfl)
  clear h; intro hb h; conv => whnf
  let t : Int := wI .i64 ((andI .i64 n1 65535) + (n1.fdiv (2 ^ 16)))
  cases h; simp only [Sum.elim_inl, head131_1] at hc
  refine Leads.re hc [] rfl ?_ ?_ <;> (repeat' first | exact trivial | refine ⟨⟨_, rfl, rfl⟩, ?_⟩ | refine ⟨⟨_, _, rfl, rfl, .rowF (vI_flat _ _) id⟩, ?_⟩ | refine ⟨⟨_, _, rfl, rfl, .rowF (vS_flat _) id⟩, ?_⟩ | refine ⟨⟨_, _, rfl, rfl, .rowF (vB_flat _) id⟩, ?_⟩ | refine ⟨⟨_, _, rfl, rfl, .rowF (vT_flat (by first | exact cicmp_Message_flat | exact capi_Addr_flat | exact coctet_Reader_flat | exact cArr2_Int_flat | exact cArr4_Arr2_Int_flat | exact cruntime_errorAddressString_flat | exact cudp_Head_flat | exact cipsix_Head_flat | exact cipfour_Head_flat | exact capi_Tuple_flat | exact ctcp_Head_flat) _) id⟩, ?_⟩ | refine ⟨⟨_, _, rfl, rfl, .tyF (vI_flat _ _)⟩, ?_⟩ | refine ⟨⟨_, _, rfl, rfl, .ty rfl⟩, ?_⟩ | refine ⟨⟨_, _, rfl, rfl, .cells rfl⟩, ?_⟩ | refine ⟨⟨_, _, rfl, rfl, .row rfl id⟩, ?_⟩ | refine ⟨⟨_, _, rfl, rfl, .cr rfl⟩, ?_⟩ | refine ⟨⟨_, _, rfl, rfl, .rc rfl⟩, ?_⟩ | refine ⟨⟨_, _, rfl, rfl, .marks⟩, ?_⟩ | refine ⟨⟨_, _, rfl, rfl, .siter _ _⟩, ?_⟩ | refine ⟨⟨_, _, rfl, rfl, .loop rfl rfl rfl rfl (by repeat' first | exact trivial | refine ⟨rfl, ?_⟩) rfl rfl rfl rfl⟩, ?_⟩)
theorem leads131 (hS : SumsOK Try.prog (aget (sums131))) (n : Int) (res : Int) (h : check_foldF n = some res) :
    Leads Try.prog 131 0 ⟨⟨131, 11, [(0, .int .i64 n)], [.code k131_12], [], false, none⟩, [], [], 0⟩ (fun v H _ => Res 0 (rx131 res) v H) := by
  unfold check_foldF at h
  refine ev_ok tab_ok hS true 3000 ?_
  conv => whnf
  have hl := loop131_1 hS res _ _ _ h rfl; simp only [head131_1] at hl
  refine Leads.re hl [] rfl ?_ ?_ <;> (repeat' first | exact trivial | refine ⟨⟨_, rfl, rfl⟩, ?_⟩ | refine ⟨⟨_, _, rfl, rfl, .rowF (vI_flat _ _) id⟩, ?_⟩ | refine ⟨⟨_, _, rfl, rfl, .rowF (vS_flat _) id⟩, ?_⟩ | refine ⟨⟨_, _, rfl, rfl, .rowF (vB_flat _) id⟩, ?_⟩ | refine ⟨⟨_, _, rfl, rfl, .rowF (vT_flat (by first | exact cicmp_Message_flat | exact capi_Addr_flat | exact coctet_Reader_flat | exact cArr2_Int_flat | exact cArr4_Arr2_Int_flat | exact cruntime_errorAddressString_flat | exact cudp_Head_flat | exact cipsix_Head_flat | exact cipfour_Head_flat | exact capi_Tuple_flat | exact ctcp_Head_flat) _) id⟩, ?_⟩ | refine ⟨⟨_, _, rfl, rfl, .tyF (vI_flat _ _)⟩, ?_⟩ | refine ⟨⟨_, _, rfl, rfl, .ty rfl⟩, ?_⟩ | refine ⟨⟨_, _, rfl, rfl, .cells rfl⟩, ?_⟩ | refine ⟨⟨_, _, rfl, rfl, .row rfl id⟩, ?_⟩ | refine ⟨⟨_, _, rfl, rfl, .cr rfl⟩, ?_⟩ | refine ⟨⟨_, _, rfl, rfl, .rc rfl⟩, ?_⟩ | refine ⟨⟨_, _, rfl, rfl, .marks⟩, ?_⟩ | refine ⟨⟨_, _, rfl, rfl, .siter _ _⟩, ?_⟩ | refine ⟨⟨_, _, rfl, rfl, .loop rfl rfl rfl rfl (by repeat' first | exact trivial | refine ⟨rfl, ?_⟩) rfl rfl rfl rfl⟩, ?_⟩)
theorem ok131 (hS : SumsOK Try.prog (aget (sums131))) : SumOK Try.prog 131 (s131 (check_foldF)) := by
  refine SumOK.of_leads tab_ok (fun ar os r ha hr => ?_) ⟨Try.f131, rfl, by decide, rfl⟩
  replace hr : r131 (check_foldF) ar (conts os) = some r := hr
  unfold r131 at hr
  generalize hc : conts os = C at hr
  replace hr := dV.elim hr; obtain ⟨v0, l1, y0, rfl, e0, hr⟩ := hr; obtain rfl := asI_eq _ _ _ e0
  replace hr := dFin hr; obtain ⟨rfl, rfl, x, h, rfl⟩ := hr
  obtain rfl := kinds_nil hc
  exact ⟨_, rfl, leads131 hS _ x h⟩
def check_fold : Int → Option Int := check_foldF
theorem lift131 : SumOK Try.prog 131 (s131 check_fold) := ok131 (SumsOK.of_tab trivial)
def check_Sum_s1 (check_fold : Int → Option Int) (s : List UInt8) (xat : Int) (n : Int) : Option (Sum (Int × Int) Int) :=
  cond (decide (xat < (s.length : Int)))
    (
    oreq (decide (0 ≤ xat)) <|
    (s[xat.toNat]?).bind fun (b : UInt8) =>
    let t := wI .i64 ((wI .i64 (b.toNat : Int)) * 2 ^ 8)
    let t1 := decide ((wI .i64 (xat + 1)) < (s.length : Int))
    cond (t1)
      (
      oreq (decide (0 ≤ (wI .i64 (xat + 1)))) <|
      (s[(wI .i64 (xat + 1)).toNat]?).bind fun (b1 : UInt8) =>
      let t2 := wI .i64 (n + (iorI .i64 t (wI .i64 (b1.toNat : Int))))
      (check_fold t2).bind fun f =>
      some (.inl (wI .i64 (xat + 2), f)))
      (
      (check_fold (wI .i64 (n + t))).bind fun f1 =>
      some (.inl (wI .i64 (xat + 2), f1))))
    (
    some (.inr (n)))
def check_SumF (check_fold : Int → Option Int) (s : List UInt8) : Option Int :=
  iter (fun st => check_Sum_s1 check_fold s st.1 st.2) FUEL (0, 0)
def rx113 (x : Int) : SRes := ⟨.int .i64 x, [], []⟩
def r113 (g : (List UInt8) → Option Int) : Dec := dV asS fun (y0 : List UInt8) => dEnd (ofG (g y0) rx113)
theorem r113_c {g : (List UInt8) → Option Int} {y0 : List UInt8} {x : Int} (hx : g y0 = some x) : r113 g [.string ⟨⟨y0⟩⟩] [] = some (rx113 x) := (dV_eq (asS_c)).trans (ofG_eq hx)
def s113 (g : (List UInt8) → Option Int) : Summ := ⟨[.v], r113 g⟩
theorem r113_eq {g : (List UInt8) → Option Int} {y0 : List UInt8} {x : Int} (hx : g y0 = some x) : (s113 g).run [.string ⟨⟨y0⟩⟩] [] = some (rx113 x) := r113_c hx
abbrev sums113 (check_fold : Int → Option Int) : List (Nat × Summ) := [(131, s131 check_fold)]
def head113_1 (s : List UInt8) (xat : Int) (n : Int) : VM :=
  ⟨⟨133, 32, [(0, .func (.yield 3) #[] #[]), (1, .pointer (some ⟨1, 0, none⟩)), (3, .int .i64 xat)], [.code k133_17, .inLoop k133_17, .inBlock 0], [], false, none⟩, [⟨113, 13, [(3, .pointer (some ⟨0, 0, none⟩))], [.inRangeFunc 3, .inBlock 0, .code k113_10], [2], false, none⟩], [(0, .cells [.int .i64 n]), (1, .cells [.string ⟨⟨s⟩⟩]), (2, .marks), (3, .loop ⟨.ready, none, 113, 13, [(3, .pointer (some ⟨0, 0, none⟩))], [7], k113_3, k113_5, 2⟩)], 4⟩
theorem loop113_1 (check_fold : Int → Option Int) (hS : SumsOK Try.prog (aget (sums113 check_fold))) (s : List UInt8) (res : Int) : ∀ fuel (st : Int × Int) (o : Int), iter (fun st => check_Sum_s1 check_fold s st.1 st.2) fuel st = some o → (o = res) →
    Leads Try.prog 113 0 (head113_1 s st.1 st.2) (fun v H _ => Res 0 (rx113 res) v H) := by
  intro fuel st o h hc
  refine iter_leads (head := fun st => head113_1 s st.1 st.2) (C := fun o => (o = res)) ?_ fuel st o h hc
  clear h hc o st fuel
  intro st o h hc
  obtain ⟨xat, n⟩ := st
  replace h : check_Sum_s1 check_fold s xat n = some o := h
  show Leads Try.prog 113 0 (head113_1 s xat n) (fun v H _ => Res 0 (rx113 res) v H)
  unfold check_Sum_s1 at h
  refine ev_ok tab_ok hS true 3000 ?_
  conv => whnf
  refine br.h2 h ?_ ?_ ?_
  · rfl
  · clear h; intro hb h; conv => whnf
    all_goals (cases h; cases hc; exact Res.z rfl rfl rfl)
  clear h; intro hb h; conv => whnf
  replace h := oreq.elim h; obtain ⟨hb, h⟩ := h
  first | (refine req.intro hb ?_; conv => whnf) | skip
  replace h := obind.elim h; obtain ⟨b, hy, h⟩ := h
  refine rdS.intro hy ?_
  conv => whnf
  let t : Int := wI .i64 ((wI .i64 (b.toNat : Int)) * 2 ^ 8)
  let t1 : Bool := decide ((wI .i64 (xat + 1)) < (s.length : Int))
  refine br.h2 h ?_ ?_ ?_
  · rfl
  · clear h; intro hb h; conv => whnf
    replace h := obind.elim h; obtain ⟨f1, hy, h⟩ := h
    refine sumK.q rfl rfl (r131_eq hy) rfl rfl rfl ?_
    conv => whnf
    cases h; simp only [Sum.elim_inl, head113_1] at hc
    refine Leads.re hc [(0, 0), (1, 1), (2, 2), (3, 3)] rfl ?_ ?_ (hu := by repeat' first | exact trivial | refine ⟨⟨rfl, rfl, rfl, rfl, rfl, ?_, rfl, rfl⟩, ?_⟩ | refine ⟨⟨_, rfl, rfl⟩, ?_⟩) <;> (repeat' first | exact trivial | refine ⟨⟨_, rfl, rfl⟩, ?_⟩ | refine ⟨⟨_, _, rfl, rfl, .rowF (vI_flat _ _) id⟩, ?_⟩ | refine ⟨⟨_, _, rfl, rfl, .rowF (vS_flat _) id⟩, ?_⟩ | refine ⟨⟨_, _, rfl, rfl, .rowF (vB_flat _) id⟩, ?_⟩ | refine ⟨⟨_, _, rfl, rfl, .rowF (vT_flat (by first | exact cicmp_Message_flat | exact capi_Addr_flat | exact coctet_Reader_flat | exact cArr2_Int_flat | exact cArr4_Arr2_Int_flat | exact cruntime_errorAddressString_flat | exact cudp_Head_flat | exact cipsix_Head_flat | exact cipfour_Head_flat | exact capi_Tuple_flat | exact ctcp_Head_flat) _) id⟩, ?_⟩ | refine ⟨⟨_, _, rfl, rfl, .tyF (vI_flat _ _)⟩, ?_⟩ | refine ⟨⟨_, _, rfl, rfl, .ty rfl⟩, ?_⟩ | refine ⟨⟨_, _, rfl, rfl, .cells rfl⟩, ?_⟩ | refine ⟨⟨_, _, rfl, rfl, .row rfl id⟩, ?_⟩ | refine ⟨⟨_, _, rfl, rfl, .cr rfl⟩, ?_⟩ | refine ⟨⟨_, _, rfl, rfl, .rc rfl⟩, ?_⟩ | refine ⟨⟨_, _, rfl, rfl, .marks⟩, ?_⟩ | refine ⟨⟨_, _, rfl, rfl, .siter _ _⟩, ?_⟩ | refine ⟨⟨_, _, rfl, rfl, .loop rfl rfl rfl rfl (by repeat' first | exact trivial | refine ⟨rfl, ?_⟩) rfl rfl rfl rfl⟩, ?_⟩)
  clear h; intro hb h; conv => whnf
  replace h := oreq.elim h; obtain ⟨hb, h⟩ := h
  first | (refine req.intro hb ?_; conv => whnf) | skip
  replace h := obind.elim h; obtain ⟨b1, hy, h⟩ := h
  refine rdS.intro hy ?_
  conv => whnf
  let t2 : Int := wI .i64 (n + (iorI .i64 t (wI .i64 (b1.toNat : Int))))
  replace h := obind.elim h; obtain ⟨f, hy, h⟩ := h
  refine sumK.q rfl rfl (r131_eq hy) rfl rfl rfl ?_
  conv => whnf
  cases h; simp only [Sum.elim_inl, head113_1] at hc
  refine Leads.re hc [(0, 0), (1, 1), (2, 2), (3, 3)] rfl ?_ ?_ (hu := by repeat' first | exact trivial | refine ⟨⟨rfl, rfl, rfl, rfl, rfl, ?_, rfl, rfl⟩, ?_⟩ | refine ⟨⟨_, rfl, rfl⟩, ?_⟩) <;> (repeat' first | exact trivial | refine ⟨⟨_, rfl, rfl⟩, ?_⟩ | refine ⟨⟨_, _, rfl, rfl, .rowF (vI_flat _ _) id⟩, ?_⟩ | refine ⟨⟨_, _, rfl, rfl, .rowF (vS_flat _) id⟩, ?_⟩ | refine ⟨⟨_, _, rfl, rfl, .rowF (vB_flat _) id⟩, ?_⟩ | refine ⟨⟨_, _, rfl, rfl, .rowF (vT_flat (by first | exact cicmp_Message_flat | exact capi_Addr_flat | exact coctet_Reader_flat | exact cArr2_Int_flat | exact cArr4_Arr2_Int_flat | exact cruntime_errorAddressString_flat | exact cudp_Head_flat | exact cipsix_Head_flat | exact cipfour_Head_flat | exact capi_Tuple_flat | exact ctcp_Head_flat) _) id⟩, ?_⟩ | refine ⟨⟨_, _, rfl, rfl, .tyF (vI_flat _ _)⟩, ?_⟩ | refine ⟨⟨_, _, rfl, rfl, .ty rfl⟩, ?_⟩ | refine ⟨⟨_, _, rfl, rfl, .cells rfl⟩, ?_⟩ | refine ⟨⟨_, _, rfl, rfl, .row rfl id⟩, ?_⟩ | refine ⟨⟨_, _, rfl, rfl, .cr rfl⟩, ?_⟩ | refine ⟨⟨_, _, rfl, rfl, .rc rfl⟩, ?_⟩ | refine ⟨⟨_, _, rfl, rfl, .marks⟩, ?_⟩ | refine ⟨⟨_, _, rfl, rfl, .siter _ _⟩, ?_⟩ | refine ⟨⟨_, _, rfl, rfl, .loop rfl rfl rfl rfl (by repeat' first | exact trivial | refine ⟨rfl, ?_⟩) rfl rfl rfl rfl⟩, ?_⟩)
theorem leads113 (check_fold : Int → Option Int) (hS : SumsOK Try.prog (aget (sums113 check_fold))) (s : List UInt8) (res : Int) (h : check_SumF check_fold s = some res) :
    Leads Try.prog 113 0 ⟨⟨113, 13, [(0, .string ⟨⟨s⟩⟩)], [.code k113_13], [], false, none⟩, [], [], 0⟩ (fun v H _ => Res 0 (rx113 res) v H) := by
  unfold check_SumF at h
  refine ev_ok tab_ok hS true 3000 ?_
  conv => whnf
  have hl := loop113_1 check_fold hS _ res _ _ _ h rfl; simp only [head113_1] at hl
  refine Leads.re hl [(0, 0), (1, 1), (2, 2), (3, 3)] rfl ?_ ?_ (hu := by repeat' first | exact trivial | refine ⟨⟨rfl, rfl, rfl, rfl, rfl, ?_, rfl, rfl⟩, ?_⟩ | refine ⟨⟨_, rfl, rfl⟩, ?_⟩) <;> (repeat' first | exact trivial | refine ⟨⟨_, rfl, rfl⟩, ?_⟩ | refine ⟨⟨_, _, rfl, rfl, .rowF (vI_flat _ _) id⟩, ?_⟩ | refine ⟨⟨_, _, rfl, rfl, .rowF (vS_flat _) id⟩, ?_⟩ | refine ⟨⟨_, _, rfl, rfl, .rowF (vB_flat _) id⟩, ?_⟩ | refine ⟨⟨_, _, rfl, rfl, .rowF (vT_flat (by first | exact cicmp_Message_flat | exact capi_Addr_flat | exact coctet_Reader_flat | exact cArr2_Int_flat | exact cArr4_Arr2_Int_flat | exact cruntime_errorAddressString_flat | exact cudp_Head_flat | exact cipsix_Head_flat | exact cipfour_Head_flat | exact capi_Tuple_flat | exact ctcp_Head_flat) _) id⟩, ?_⟩ | refine ⟨⟨_, _, rfl, rfl, .tyF (vI_flat _ _)⟩, ?_⟩ | refine ⟨⟨_, _, rfl, rfl, .ty rfl⟩, ?_⟩ | refine ⟨⟨_, _, rfl, rfl, .cells rfl⟩, ?_⟩ | refine ⟨⟨_, _, rfl, rfl, .row rfl id⟩, ?_⟩ | refine ⟨⟨_, _, rfl, rfl, .cr rfl⟩, ?_⟩ | refine ⟨⟨_, _, rfl, rfl, .rc rfl⟩, ?_⟩ | refine ⟨⟨_, _, rfl, rfl, .marks⟩, ?_⟩ | refine ⟨⟨_, _, rfl, rfl, .siter _ _⟩, ?_⟩ | refine ⟨⟨_, _, rfl, rfl, .loop rfl rfl rfl rfl (by repeat' first | exact trivial | refine ⟨rfl, ?_⟩) rfl rfl rfl rfl⟩, ?_⟩)
theorem ok113 (check_fold : Int → Option Int) (hS : SumsOK Try.prog (aget (sums113 check_fold))) : SumOK Try.prog 113 (s113 (check_SumF check_fold)) := by
  refine SumOK.of_leads tab_ok (fun ar os r ha hr => ?_) ⟨Try.f113, rfl, by decide, rfl⟩
  replace hr : r113 (check_SumF check_fold) ar (conts os) = some r := hr
  unfold r113 at hr
  generalize hc : conts os = C at hr
  replace hr := dV.elim hr; obtain ⟨v0, l1, y0, rfl, e0, hr⟩ := hr; obtain rfl := asS_eq _ _ e0
  replace hr := dFin hr; obtain ⟨rfl, rfl, x, h, rfl⟩ := hr
  obtain rfl := kinds_nil hc
  exact ⟨_, rfl, leads113 check_fold hS _ x h⟩
def check_Sum : (List UInt8) → Option Int := check_SumF check_fold
theorem lift113 : SumOK Try.prog 113 (s113 check_Sum) := ok113 check_fold (SumsOK.of_tab ⟨lift131, trivial⟩)
def octet_Put_s1 (n : Int) (k : Int) (t17 : Int) (b : List Int) : Option (Sum (Int × (List Int)) (List UInt8)) :=
  cond (decide (t17 < (k.toNat : Int)))
    (
    let t := wI .i64 (8 * (wI .i64 ((wI .i64 (k - 1)) - t17)))
    oreq (decide (0 ≤ t)) <|
    oreq (decide ((0 : Int) ≤ t17 ∧ t17 < (k.toNat : Int))) <|
    oreq (decide (t17.toNat < b.length)) <|
    let row := b.set t17.toNat (wI .u8 (n.fdiv (2 ^ (min t.toNat 64))))
    some (.inl (wI .i64 (t17 + 1), row)))
    (
    oreq (decide (k.toNat ≤ b.length)) <|
    some (.inr (iB (b.take k.toNat))))
def octet_PutF (n : Int) (k : Int) : Option (List UInt8) :=
  cond (decide (k < 1))
    (
    some ([]))
    (
    cond (decide (k > 8))
      (
      some ([]))
      (
      oreq (decide (0 ≤ k ∧ k ≤ k ∧ k < 2 ^ 63 ∧ (1 : Int) * k ≤ 2 ^ 48)) <|
      iter (fun st => octet_Put_s1 n k st.1 st.2) FUEL (0, List.replicate k.toNat (0))))
def rx62 (x : List UInt8) : SRes := ⟨.string ⟨⟨x⟩⟩, [], []⟩
def r62 (g : Int → Int → Option (List UInt8)) : Dec := dV (asI .u64) fun (y0 : Int) => dV (asI .i64) fun (y1 : Int) => dEnd (ofG (g y0 y1) rx62)
theorem r62_c {g : Int → Int → Option (List UInt8)} {y0 : Int} {y1 : Int} {x : List UInt8} (hx : g y0 y1 = some x) : r62 g [.int .u64 y0, .int .i64 y1] [] = some (rx62 x) := (dV_eq (asI_c _)).trans ((dV_eq (asI_c _)).trans (ofG_eq hx))
def s62 (g : Int → Int → Option (List UInt8)) : Summ := ⟨[.v, .v], r62 g⟩
theorem r62_eq {g : Int → Int → Option (List UInt8)} {y0 : Int} {y1 : Int} {x : List UInt8} (hx : g y0 y1 = some x) : (s62 g).run [.int .u64 y0, .int .i64 y1] [] = some (rx62 x) := r62_c hx
abbrev sums62 : List (Nat × Summ) := []
def head62_1 (n : Int) (k : Int) (t17 : Int) (b : List Int) : VM :=
  ⟨⟨62, 34, [(0, .int .u64 n), (1, .int .i64 k), (5, .slice (some ⟨0, 0, none⟩) k.toNat 1), (16, .int .i64 (k.toNat : Int)), (17, .int .i64 t17)], [.code k62_17, .inLoop k62_17, .inBlock 0, .code k62_22], [], false, none⟩, [], [(0, .row true (vI .u8 b))], 1⟩
theorem loop62_1 (hS : SumsOK Try.prog (aget (sums62))) (n : Int) (k : Int) (res : List UInt8) : ∀ fuel (st : Int × (List Int)) (o : List UInt8), iter (fun st => octet_Put_s1 n k st.1 st.2) fuel st = some o → (o = res) →
    Leads Try.prog 62 0 (head62_1 n k st.1 st.2) (fun v H _ => Res 0 (rx62 res) v H) := by
  intro fuel st o h hc
  refine iter_leads (head := fun st => head62_1 n k st.1 st.2) (C := fun o => (o = res)) ?_ fuel st o h hc
  clear h hc o st fuel
  intro st o h hc
  obtain ⟨t17, b⟩ := st
  replace h : octet_Put_s1 n k t17 b = some o := h
  show Leads Try.prog 62 0 (head62_1 n k t17 b) (fun v H _ => Res 0 (rx62 res) v H)
  unfold octet_Put_s1 at h
  refine ev_ok tab_ok hS true 3000 ?_
  conv => whnf
  refine br.h2 h ?_ ?_ ?_
  · rfl
  · clear h; intro hb h; conv => whnf
    replace h := oreq.elim h; obtain ⟨hb, h⟩ := h
    refine req.intro (by (first | rfl | (simp [vI, vB, vS, bI, oneC, addrBlk, cellsL, Value.cells] at *; omega) | (simp [vI, vB, vS, bI, oneC, addrBlk, cellsL, Value.cells] at *; done))) ?_
    conv => whnf
    refine pk_b2s ?_
    conv => whnf
    all_goals (cases h; cases hc; exact Res.z rfl rfl rfl)
  clear h; intro hb h; conv => whnf
  let t : Int := wI .i64 (8 * (wI .i64 ((wI .i64 (k - 1)) - t17)))
  replace h := oreq.elim h; obtain ⟨hb, h⟩ := h
  first | (refine req.intro hb ?_; conv => whnf) | skip
  replace h := oreq.elim h; obtain ⟨hb, h⟩ := h
  first | (refine req.intro hb ?_; conv => whnf) | skip
  replace h := oreq.elim h; obtain ⟨hb, h⟩ := h
  refine st_I hb (by first | rfl | (rw [Nat.zero_add, Nat.mul_one]; done) | omega) ?_
  conv => whnf
  let row : List Int := b.set t17.toNat (wI .u8 (n.fdiv (2 ^ (min t.toNat 64))))
  cases h; simp only [Sum.elim_inl, head62_1] at hc
  refine Leads.re hc [(0, 0)] rfl ?_ ?_ <;> (repeat' first | exact trivial | refine ⟨⟨_, rfl, rfl⟩, ?_⟩ | refine ⟨⟨_, _, rfl, rfl, .rowF (vI_flat _ _) id⟩, ?_⟩ | refine ⟨⟨_, _, rfl, rfl, .rowF (vS_flat _) id⟩, ?_⟩ | refine ⟨⟨_, _, rfl, rfl, .rowF (vB_flat _) id⟩, ?_⟩ | refine ⟨⟨_, _, rfl, rfl, .rowF (vT_flat (by first | exact cicmp_Message_flat | exact capi_Addr_flat | exact coctet_Reader_flat | exact cArr2_Int_flat | exact cArr4_Arr2_Int_flat | exact cruntime_errorAddressString_flat | exact cudp_Head_flat | exact cipsix_Head_flat | exact cipfour_Head_flat | exact capi_Tuple_flat | exact ctcp_Head_flat) _) id⟩, ?_⟩ | refine ⟨⟨_, _, rfl, rfl, .tyF (vI_flat _ _)⟩, ?_⟩ | refine ⟨⟨_, _, rfl, rfl, .ty rfl⟩, ?_⟩ | refine ⟨⟨_, _, rfl, rfl, .cells rfl⟩, ?_⟩ | refine ⟨⟨_, _, rfl, rfl, .row rfl id⟩, ?_⟩ | refine ⟨⟨_, _, rfl, rfl, .cr rfl⟩, ?_⟩ | refine ⟨⟨_, _, rfl, rfl, .rc rfl⟩, ?_⟩ | refine ⟨⟨_, _, rfl, rfl, .marks⟩, ?_⟩ | refine ⟨⟨_, _, rfl, rfl, .siter _ _⟩, ?_⟩ | refine ⟨⟨_, _, rfl, rfl, .loop rfl rfl rfl rfl (by repeat' first | exact trivial | refine ⟨rfl, ?_⟩) rfl rfl rfl rfl⟩, ?_⟩)
theorem leads62 (hS : SumsOK Try.prog (aget (sums62))) (n : Int) (k : Int) (res : List UInt8) (h : octet_PutF n k = some res) :
    Leads Try.prog 62 0 ⟨⟨62, 34, [(0, .int .u64 n), (1, .int .i64 k)], [.code k62_26], [], false, none⟩, [], [], 0⟩ (fun v H _ => Res 0 (rx62 res) v H) := by
  unfold octet_PutF at h
  refine ev_ok tab_ok hS true 3000 ?_
  conv => whnf
  refine br.h h ?_ ?_ ?_
  · rfl
  · clear h; intro hb h; conv => whnf
    all_goals (cases h; exact Res.z rfl rfl rfl)
  clear h; intro hb h; conv => whnf
  refine br.h h ?_ ?_ ?_
  · rfl
  · clear h; intro hb h; conv => whnf
    all_goals (cases h; exact Res.z rfl rfl rfl)
  clear h; intro hb h; conv => whnf
  replace h := oreq.elim h; obtain ⟨hb, h⟩ := h
  first | (refine req.intro hb ?_; conv => whnf) | skip
  refine pk_mkI ?_
  conv => whnf
  have hl := loop62_1 hS _ _ res _ _ _ h rfl; simp only [head62_1] at hl
  refine Leads.re hl [(0, 0)] rfl ?_ ?_ <;> (repeat' first | exact trivial | refine ⟨⟨_, rfl, rfl⟩, ?_⟩ | refine ⟨⟨_, _, rfl, rfl, .rowF (vI_flat _ _) id⟩, ?_⟩ | refine ⟨⟨_, _, rfl, rfl, .rowF (vS_flat _) id⟩, ?_⟩ | refine ⟨⟨_, _, rfl, rfl, .rowF (vB_flat _) id⟩, ?_⟩ | refine ⟨⟨_, _, rfl, rfl, .rowF (vT_flat (by first | exact cicmp_Message_flat | exact capi_Addr_flat | exact coctet_Reader_flat | exact cArr2_Int_flat | exact cArr4_Arr2_Int_flat | exact cruntime_errorAddressString_flat | exact cudp_Head_flat | exact cipsix_Head_flat | exact cipfour_Head_flat | exact capi_Tuple_flat | exact ctcp_Head_flat) _) id⟩, ?_⟩ | refine ⟨⟨_, _, rfl, rfl, .tyF (vI_flat _ _)⟩, ?_⟩ | refine ⟨⟨_, _, rfl, rfl, .ty rfl⟩, ?_⟩ | refine ⟨⟨_, _, rfl, rfl, .cells rfl⟩, ?_⟩ | refine ⟨⟨_, _, rfl, rfl, .row rfl id⟩, ?_⟩ | refine ⟨⟨_, _, rfl, rfl, .cr rfl⟩, ?_⟩ | refine ⟨⟨_, _, rfl, rfl, .rc rfl⟩, ?_⟩ | refine ⟨⟨_, _, rfl, rfl, .marks⟩, ?_⟩ | refine ⟨⟨_, _, rfl, rfl, .siter _ _⟩, ?_⟩ | refine ⟨⟨_, _, rfl, rfl, .loop rfl rfl rfl rfl (by repeat' first | exact trivial | refine ⟨rfl, ?_⟩) rfl rfl rfl rfl⟩, ?_⟩)
theorem ok62 (hS : SumsOK Try.prog (aget (sums62))) : SumOK Try.prog 62 (s62 (octet_PutF)) := by
  refine SumOK.of_leads tab_ok (fun ar os r ha hr => ?_) ⟨Try.f62, rfl, by decide, rfl⟩
  replace hr : r62 (octet_PutF) ar (conts os) = some r := hr
  unfold r62 at hr
  generalize hc : conts os = C at hr
  replace hr := dV.elim hr; obtain ⟨v0, l1, y0, rfl, e0, hr⟩ := hr; obtain rfl := asI_eq _ _ _ e0
  replace hr := dV.elim hr; obtain ⟨v1, l2, y1, rfl, e1, hr⟩ := hr; obtain rfl := asI_eq _ _ _ e1
  replace hr := dFin hr; obtain ⟨rfl, rfl, x, h, rfl⟩ := hr
  obtain rfl := kinds_nil hc
  exact ⟨_, rfl, leads62 hS _ _ x h⟩
def octet_Put : Int → Int → Option (List UInt8) := octet_PutF
theorem lift62 : SumOK Try.prog 62 (s62 octet_Put) := ok62 (SumsOK.of_tab trivial)
def octet_Get_s1 (t1 : List UInt8) (n : Int) (t37 : Int) : Option (Sum (Int × Int) (Int × Bool)) :=
  cond (decide (t37 < (t1.length : Int)))
    (
    oreq (decide ((0 : Int) ≤ t37 ∧ t37 < (t1.length : Int))) <|
    ((bI t1)[t37.toNat]?).bind fun (e : Int) =>
    let t2 := iorI .u64 (wI .u64 (n * 2 ^ 8)) (wI .u64 e)
    some (.inl (t2, wI .i64 (t37 + 1))))
    (
    some (.inr ((n, true))))
def octet_GetF (s : List UInt8) (ata1 : Int) (k : Int) : Option (Int × Bool) :=
  cond (decide (k < 1))
    (
    some ((0, false)))
    (
    cond (decide (k > 8))
      (
      some ((0, false)))
      (
      cond (decide (ata1 < 0))
        (
        some ((0, false)))
        (
        let t := decide ((wI .i64 ((s.length : Int) - k)) < ata1)
        cond (t)
          (
          some ((0, false)))
          (
          oreq (decide ((0 : Int) ≤ (wI .i64 (ata1 + k)) ∧ (wI .i64 (ata1 + k)) ≤ (s.length : Int) ∧ (0 : Int) ≤ ata1 ∧ ata1 ≤ ((wI .i64 (ata1 + k)).toNat : Int))) <|
          let t1 := (s.drop ata1.toNat).take ((wI .i64 (ata1 + k)).toNat - ata1.toNat)
          iter (fun st => octet_Get_s1 t1 st.1 st.2) FUEL (0, 0)))))
def rx101 (x : Int × Bool) : SRes := ⟨.tuple ⟨[.int .u64 x.1, .bool x.2]⟩, [], []⟩
def r101 (g : (List UInt8) → Int → Int → Option (Int × Bool)) : Dec := dV asS fun (y0 : List UInt8) => dV (asI .i64) fun (y1 : Int) => dV (asI .i64) fun (y2 : Int) => dEnd (ofG (g y0 y1 y2) rx101)
theorem r101_c {g : (List UInt8) → Int → Int → Option (Int × Bool)} {y0 : List UInt8} {y1 : Int} {y2 : Int} {x : Int × Bool} (hx : g y0 y1 y2 = some x) : r101 g [.string ⟨⟨y0⟩⟩, .int .i64 y1, .int .i64 y2] [] = some (rx101 x) := (dV_eq (asS_c)).trans ((dV_eq (asI_c _)).trans ((dV_eq (asI_c _)).trans (ofG_eq hx)))
def s101 (g : (List UInt8) → Int → Int → Option (Int × Bool)) : Summ := ⟨[.v, .v, .v], r101 g⟩
theorem r101_eq {g : (List UInt8) → Int → Int → Option (Int × Bool)} {y0 : List UInt8} {y1 : Int} {y2 : Int} {x : Int × Bool} (hx : g y0 y1 y2 = some x) : (s101 g).run [.string ⟨⟨y0⟩⟩, .int .i64 y1, .int .i64 y2] [] = some (rx101 x) := r101_c hx
abbrev sums101 : List (Nat × Summ) := []
def head101_1 (t1 : List UInt8) (n : Int) (t37 : Int) : VM :=
  ⟨⟨101, 48, [(8, .int .u64 n), (35, .slice (some ⟨0, 0, none⟩) t1.length 1), (36, .int .i64 (t1.length : Int)), (37, .int .i64 t37)], [.code k101_17, .inLoop k101_17, .inBlock 0, .code k101_22], [], false, none⟩, [], [(0, .row true (vI .u8 (bI t1)))], 1⟩
theorem loop101_1 (hS : SumsOK Try.prog (aget (sums101))) (t1 : List UInt8) (res : Int × Bool) : ∀ fuel (st : Int × Int) (o : Int × Bool), iter (fun st => octet_Get_s1 t1 st.1 st.2) fuel st = some o → (o = res) →
    Leads Try.prog 101 0 (head101_1 t1 st.1 st.2) (fun v H _ => Res 0 (rx101 res) v H) := by
  intro fuel st o h hc
  refine iter_leads (head := fun st => head101_1 t1 st.1 st.2) (C := fun o => (o = res)) ?_ fuel st o h hc
  clear h hc o st fuel
  intro st o h hc
  obtain ⟨n, t37⟩ := st
  replace h : octet_Get_s1 t1 n t37 = some o := h
  show Leads Try.prog 101 0 (head101_1 t1 n t37) (fun v H _ => Res 0 (rx101 res) v H)
  unfold octet_Get_s1 at h
  refine ev_ok tab_ok hS true 3000 ?_
  conv => whnf
  refine br.h2 h ?_ ?_ ?_
  · rfl
  · clear h; intro hb h; conv => whnf
    all_goals (cases h; cases hc; exact Res.z rfl rfl rfl)
  clear h; intro hb h; conv => whnf
  replace h := oreq.elim h; obtain ⟨hb, h⟩ := h
  first | (refine req.intro hb ?_; conv => whnf) | skip
  replace h := obind.elim h; obtain ⟨e, hy, h⟩ := h
  refine rd.I hy (by first | rfl | (rw [Nat.zero_add, Nat.mul_one]; done) | omega) ?_
  conv => whnf
  let t2 : Int := iorI .u64 (wI .u64 (n * 2 ^ 8)) (wI .u64 e)
  cases h; simp only [Sum.elim_inl, head101_1] at hc
  refine Leads.re hc [(0, 0)] rfl ?_ ?_ <;> (repeat' first | exact trivial | refine ⟨⟨_, rfl, rfl⟩, ?_⟩ | refine ⟨⟨_, _, rfl, rfl, .rowF (vI_flat _ _) id⟩, ?_⟩ | refine ⟨⟨_, _, rfl, rfl, .rowF (vS_flat _) id⟩, ?_⟩ | refine ⟨⟨_, _, rfl, rfl, .rowF (vB_flat _) id⟩, ?_⟩ | refine ⟨⟨_, _, rfl, rfl, .rowF (vT_flat (by first | exact cicmp_Message_flat | exact capi_Addr_flat | exact coctet_Reader_flat | exact cArr2_Int_flat | exact cArr4_Arr2_Int_flat | exact cruntime_errorAddressString_flat | exact cudp_Head_flat | exact cipsix_Head_flat | exact cipfour_Head_flat | exact capi_Tuple_flat | exact ctcp_Head_flat) _) id⟩, ?_⟩ | refine ⟨⟨_, _, rfl, rfl, .tyF (vI_flat _ _)⟩, ?_⟩ | refine ⟨⟨_, _, rfl, rfl, .ty rfl⟩, ?_⟩ | refine ⟨⟨_, _, rfl, rfl, .cells rfl⟩, ?_⟩ | refine ⟨⟨_, _, rfl, rfl, .row rfl id⟩, ?_⟩ | refine ⟨⟨_, _, rfl, rfl, .cr rfl⟩, ?_⟩ | refine ⟨⟨_, _, rfl, rfl, .rc rfl⟩, ?_⟩ | refine ⟨⟨_, _, rfl, rfl, .marks⟩, ?_⟩ | refine ⟨⟨_, _, rfl, rfl, .siter _ _⟩, ?_⟩ | refine ⟨⟨_, _, rfl, rfl, .loop rfl rfl rfl rfl (by repeat' first | exact trivial | refine ⟨rfl, ?_⟩) rfl rfl rfl rfl⟩, ?_⟩)
theorem leads101 (hS : SumsOK Try.prog (aget (sums101))) (s : List UInt8) (ata1 : Int) (k : Int) (res : Int × Bool) (h : octet_GetF s ata1 k = some res) :
    Leads Try.prog 101 0 ⟨⟨101, 48, [(0, .string ⟨⟨s⟩⟩), (1, .int .i64 ata1), (2, .int .i64 k)], [.code k101_26], [], false, none⟩, [], [], 0⟩ (fun v H _ => Res 0 (rx101 res) v H) := by
  unfold octet_GetF at h
  refine ev_ok tab_ok hS true 3000 ?_
  conv => whnf
  refine br.h h ?_ ?_ ?_
  · rfl
  · clear h; intro hb h; conv => whnf
    all_goals (cases h; exact Res.z rfl rfl rfl)
  clear h; intro hb h; conv => whnf
  refine br.h h ?_ ?_ ?_
  · rfl
  · clear h; intro hb h; conv => whnf
    all_goals (cases h; exact Res.z rfl rfl rfl)
  clear h; intro hb h; conv => whnf
  refine br.h h ?_ ?_ ?_
  · rfl
  · clear h; intro hb h; conv => whnf
    all_goals (cases h; exact Res.z rfl rfl rfl)
  clear h; intro hb h; conv => whnf
  let t : Bool := decide ((wI .i64 ((s.length : Int) - k)) < ata1)
  refine br.h h ?_ ?_ ?_
  · rfl
  · clear h; intro hb h; conv => whnf
    all_goals (cases h; exact Res.z rfl rfl rfl)
  clear h; intro hb h; conv => whnf
  replace h := oreq.elim h; obtain ⟨hb, h⟩ := h
  first | (refine req.intro hb ?_; conv => whnf) | skip
  let t1 : List UInt8 := (s.drop ata1.toNat).take ((wI .i64 (ata1 + k)).toNat - ata1.toNat)
  refine pk_s2b ?_
  conv => whnf
  have hl := loop101_1 hS _ res _ _ _ h rfl; simp only [head101_1] at hl
  refine Leads.re hl [(0, 0)] rfl ?_ ?_ <;> (repeat' first | exact trivial | refine ⟨⟨_, rfl, rfl⟩, ?_⟩ | refine ⟨⟨_, _, rfl, rfl, .rowF (vI_flat _ _) id⟩, ?_⟩ | refine ⟨⟨_, _, rfl, rfl, .rowF (vS_flat _) id⟩, ?_⟩ | refine ⟨⟨_, _, rfl, rfl, .rowF (vB_flat _) id⟩, ?_⟩ | refine ⟨⟨_, _, rfl, rfl, .rowF (vT_flat (by first | exact cicmp_Message_flat | exact capi_Addr_flat | exact coctet_Reader_flat | exact cArr2_Int_flat | exact cArr4_Arr2_Int_flat | exact cruntime_errorAddressString_flat | exact cudp_Head_flat | exact cipsix_Head_flat | exact cipfour_Head_flat | exact capi_Tuple_flat | exact ctcp_Head_flat) _) id⟩, ?_⟩ | refine ⟨⟨_, _, rfl, rfl, .tyF (vI_flat _ _)⟩, ?_⟩ | refine ⟨⟨_, _, rfl, rfl, .ty rfl⟩, ?_⟩ | refine ⟨⟨_, _, rfl, rfl, .cells rfl⟩, ?_⟩ | refine ⟨⟨_, _, rfl, rfl, .row rfl id⟩, ?_⟩ | refine ⟨⟨_, _, rfl, rfl, .cr rfl⟩, ?_⟩ | refine ⟨⟨_, _, rfl, rfl, .rc rfl⟩, ?_⟩ | refine ⟨⟨_, _, rfl, rfl, .marks⟩, ?_⟩ | refine ⟨⟨_, _, rfl, rfl, .siter _ _⟩, ?_⟩ | refine ⟨⟨_, _, rfl, rfl, .loop rfl rfl rfl rfl (by repeat' first | exact trivial | refine ⟨rfl, ?_⟩) rfl rfl rfl rfl⟩, ?_⟩)
theorem ok101 (hS : SumsOK Try.prog (aget (sums101))) : SumOK Try.prog 101 (s101 (octet_GetF)) := by
  refine SumOK.of_leads tab_ok (fun ar os r ha hr => ?_) ⟨Try.f101, rfl, by decide, rfl⟩
  replace hr : r101 (octet_GetF) ar (conts os) = some r := hr
  unfold r101 at hr
  generalize hc : conts os = C at hr
  replace hr := dV.elim hr; obtain ⟨v0, l1, y0, rfl, e0, hr⟩ := hr; obtain rfl := asS_eq _ _ e0
  replace hr := dV.elim hr; obtain ⟨v1, l2, y1, rfl, e1, hr⟩ := hr; obtain rfl := asI_eq _ _ _ e1
  replace hr := dV.elim hr; obtain ⟨v2, l3, y2, rfl, e2, hr⟩ := hr; obtain rfl := asI_eq _ _ _ e2
  replace hr := dFin hr; obtain ⟨rfl, rfl, x, h, rfl⟩ := hr
  obtain rfl := kinds_nil hc
  exact ⟨_, rfl, leads101 hS _ _ _ x h⟩
def octet_Get : (List UInt8) → Int → Int → Option (Int × Bool) := octet_GetF
theorem lift101 : SumOK Try.prog 101 (s101 octet_Get) := ok101 (SumsOK.of_tab trivial)
def R02_Put_s1 (k : Int) (n1 : Int) (s : List UInt8) (i : Int) : Option (Sum (Int × (List UInt8) × Int) (List UInt8)) :=
  cond (decide (i < k))
    (
    cond (decide (k ≤ 8))
      (
      let t := [UInt8.ofNat (wI .u8 (n1.tmod 256)).toNat]
      oreq (decide (t.length + s.length < 2 ^ 63)) <|
      some (.inl (wI .u64 (n1.tdiv 256), t ++ s, wI .i64 (i + 1))))
      (
      some (.inr (s))))
    (
    some (.inr (s)))
def R02_PutF (n : Int) (k : Int) : Option (List UInt8) :=
  iter (fun st => R02_Put_s1 k st.1 st.2.1 st.2.2) FUEL (n, [], 0)
def rx67 (x : List UInt8) : SRes := ⟨.string ⟨⟨x⟩⟩, [], []⟩
def r67 (g : Int → Int → Option (List UInt8)) : Dec := dV (asI .u64) fun (y0 : Int) => dV (asI .i64) fun (y1 : Int) => dEnd (ofG (g y0 y1) rx67)
theorem r67_c {g : Int → Int → Option (List UInt8)} {y0 : Int} {y1 : Int} {x : List UInt8} (hx : g y0 y1 = some x) : r67 g [.int .u64 y0, .int .i64 y1] [] = some (rx67 x) := (dV_eq (asI_c _)).trans ((dV_eq (asI_c _)).trans (ofG_eq hx))
def s67 (g : Int → Int → Option (List UInt8)) : Summ := ⟨[.v, .v], r67 g⟩
theorem r67_eq {g : Int → Int → Option (List UInt8)} {y0 : Int} {y1 : Int} {x : List UInt8} (hx : g y0 y1 = some x) : (s67 g).run [.int .u64 y0, .int .i64 y1] [] = some (rx67 x) := r67_c hx
abbrev sums67 : List (Nat × Summ) := []
def head67_1 (k : Int) (n1 : Int) (s : List UInt8) (i : Int) : VM :=
  ⟨⟨67, 26, [(0, .int .u64 n1), (1, .int .i64 k), (5, .string ⟨⟨s⟩⟩), (6, .int .i64 i)], [.code k67_12, .inLoop k67_12, .inBlock 0, .code k67_17], [], false, none⟩, [], [], 0⟩
theorem loop67_1 (hS : SumsOK Try.prog (aget (sums67))) (k : Int) (res : List UInt8) : ∀ fuel (st : Int × (List UInt8) × Int) (o : List UInt8), iter (fun st => R02_Put_s1 k st.1 st.2.1 st.2.2) fuel st = some o → (o = res) →
    Leads Try.prog 67 0 (head67_1 k st.1 st.2.1 st.2.2) (fun v H _ => Res 0 (rx67 res) v H) := by
  intro fuel st o h hc
  refine iter_leads (head := fun st => head67_1 k st.1 st.2.1 st.2.2) (C := fun o => (o = res)) ?_ fuel st o h hc
  clear h hc o st fuel
  intro st o h hc
  obtain ⟨n1, s, i⟩ := st
  replace h : R02_Put_s1 k n1 s i = some o := h
  show Leads Try.prog 67 0 (head67_1 k n1 s i) (fun v H _ => Res 0 (rx67 res) v H)
  unfold R02_Put_s1 at h
  refine ev_ok tab_ok hS true 3000 ?_
  conv => whnf
  refine br.h2 h ?_ ?_ ?_
  · rfl
  · clear h; intro hb h; conv => whnf
    all_goals (cases h; cases hc; exact Res.z rfl rfl rfl)
  clear h; intro hb h; conv => whnf
  refine br.h2 h ?_ ?_ ?_
  · rfl
  · clear h; intro hb h; conv => whnf
    all_goals (cases h; cases hc; exact Res.z rfl rfl rfl)
  clear h; intro hb h; conv => whnf
  refine pk_b2sL rfl ?_
  conv => whnf
  let t : List UInt8 := [UInt8.ofNat (wI .u8 (n1.tmod 256)).toNat]
  replace h := oreq.elim h; obtain ⟨hb, h⟩ := h
  first | (refine req.intro hb ?_; conv => whnf) | skip
  cases h; simp only [Sum.elim_inl, head67_1] at hc
  refine Leads.re hc [] rfl ?_ ?_ <;> (repeat' first | exact trivial | refine ⟨⟨_, rfl, rfl⟩, ?_⟩ | refine ⟨⟨_, _, rfl, rfl, .rowF (vI_flat _ _) id⟩, ?_⟩ | refine ⟨⟨_, _, rfl, rfl, .rowF (vS_flat _) id⟩, ?_⟩ | refine ⟨⟨_, _, rfl, rfl, .rowF (vB_flat _) id⟩, ?_⟩ | refine ⟨⟨_, _, rfl, rfl, .rowF (vT_flat (by first | exact cicmp_Message_flat | exact capi_Addr_flat | exact coctet_Reader_flat | exact cArr2_Int_flat | exact cArr4_Arr2_Int_flat | exact cruntime_errorAddressString_flat | exact cudp_Head_flat | exact cipsix_Head_flat | exact cipfour_Head_flat | exact capi_Tuple_flat | exact ctcp_Head_flat) _) id⟩, ?_⟩ | refine ⟨⟨_, _, rfl, rfl, .tyF (vI_flat _ _)⟩, ?_⟩ | refine ⟨⟨_, _, rfl, rfl, .ty rfl⟩, ?_⟩ | refine ⟨⟨_, _, rfl, rfl, .cells rfl⟩, ?_⟩ | refine ⟨⟨_, _, rfl, rfl, .row rfl id⟩, ?_⟩ | refine ⟨⟨_, _, rfl, rfl, .cr rfl⟩, ?_⟩ | refine ⟨⟨_, _, rfl, rfl, .rc rfl⟩, ?_⟩ | refine ⟨⟨_, _, rfl, rfl, .marks⟩, ?_⟩ | refine ⟨⟨_, _, rfl, rfl, .siter _ _⟩, ?_⟩ | refine ⟨⟨_, _, rfl, rfl, .loop rfl rfl rfl rfl (by repeat' first | exact trivial | refine ⟨rfl, ?_⟩) rfl rfl rfl rfl⟩, ?_⟩)
theorem leads67 (hS : SumsOK Try.prog (aget (sums67))) (n : Int) (k : Int) (res : List UInt8) (h : R02_PutF n k = some res) :
    Leads Try.prog 67 0 ⟨⟨67, 26, [(0, .int .u64 n), (1, .int .i64 k)], [.code k67_20], [], false, none⟩, [], [], 0⟩ (fun v H _ => Res 0 (rx67 res) v H) := by
  unfold R02_PutF at h
  refine ev_ok tab_ok hS true 3000 ?_
  conv => whnf
  have hl := loop67_1 hS _ res _ _ _ h rfl; simp only [head67_1] at hl
  refine Leads.re hl [] rfl ?_ ?_ <;> (repeat' first | exact trivial | refine ⟨⟨_, rfl, rfl⟩, ?_⟩ | refine ⟨⟨_, _, rfl, rfl, .rowF (vI_flat _ _) id⟩, ?_⟩ | refine ⟨⟨_, _, rfl, rfl, .rowF (vS_flat _) id⟩, ?_⟩ | refine ⟨⟨_, _, rfl, rfl, .rowF (vB_flat _) id⟩, ?_⟩ | refine ⟨⟨_, _, rfl, rfl, .rowF (vT_flat (by first | exact cicmp_Message_flat | exact capi_Addr_flat | exact coctet_Reader_flat | exact cArr2_Int_flat | exact cArr4_Arr2_Int_flat | exact cruntime_errorAddressString_flat | exact cudp_Head_flat | exact cipsix_Head_flat | exact cipfour_Head_flat | exact capi_Tuple_flat | exact ctcp_Head_flat) _) id⟩, ?_⟩ | refine ⟨⟨_, _, rfl, rfl, .tyF (vI_flat _ _)⟩, ?_⟩ | refine ⟨⟨_, _, rfl, rfl, .ty rfl⟩, ?_⟩ | refine ⟨⟨_, _, rfl, rfl, .cells rfl⟩, ?_⟩ | refine ⟨⟨_, _, rfl, rfl, .row rfl id⟩, ?_⟩ | refine ⟨⟨_, _, rfl, rfl, .cr rfl⟩, ?_⟩ | refine ⟨⟨_, _, rfl, rfl, .rc rfl⟩, ?_⟩ | refine ⟨⟨_, _, rfl, rfl, .marks⟩, ?_⟩ | refine ⟨⟨_, _, rfl, rfl, .siter _ _⟩, ?_⟩ | refine ⟨⟨_, _, rfl, rfl, .loop rfl rfl rfl rfl (by repeat' first | exact trivial | refine ⟨rfl, ?_⟩) rfl rfl rfl rfl⟩, ?_⟩)
theorem ok67 (hS : SumsOK Try.prog (aget (sums67))) : SumOK Try.prog 67 (s67 (R02_PutF)) := by
  refine SumOK.of_leads tab_ok (fun ar os r ha hr => ?_) ⟨Try.f67, rfl, by decide, rfl⟩
  replace hr : r67 (R02_PutF) ar (conts os) = some r := hr
  unfold r67 at hr
  generalize hc : conts os = C at hr
  replace hr := dV.elim hr; obtain ⟨v0, l1, y0, rfl, e0, hr⟩ := hr; obtain rfl := asI_eq _ _ _ e0
  replace hr := dV.elim hr; obtain ⟨v1, l2, y1, rfl, e1, hr⟩ := hr; obtain rfl := asI_eq _ _ _ e1
  replace hr := dFin hr; obtain ⟨rfl, rfl, x, h, rfl⟩ := hr
  obtain rfl := kinds_nil hc
  exact ⟨_, rfl, leads67 hS _ _ x h⟩
def R02_Put : Int → Int → Option (List UInt8) := R02_PutF
theorem lift67 : SumOK Try.prog 67 (s67 R02_Put) := ok67 (SumsOK.of_tab trivial)
def R02_Get_s1 (s : List UInt8) (ata1 : Int) (k : Int) (n : Int) (i : Int) : Option (Sum (Int × Int) (Int × Bool)) :=
  cond (decide (i < k))
    (
    oreq (decide (0 ≤ (wI .i64 (ata1 + i)))) <|
    (s[(wI .i64 (ata1 + i)).toNat]?).bind fun (b : UInt8) =>
    let t1 := wI .u64 ((wI .u64 (n * 256)) + (wI .u64 (b.toNat : Int)))
    some (.inl (t1, wI .i64 (i + 1))))
    (
    some (.inr ((n, true))))
def R02_GetF (s : List UInt8) (ata1 : Int) (k : Int) : Option (Int × Bool) :=
  cond (decide (k < 1))
    (
    some ((0, false)))
    (
    cond (decide (k > 8))
      (
      some ((0, false)))
      (
      cond (decide (ata1 < 0))
        (
        some ((0, false)))
        (
        cond (decide (ata1 > (s.length : Int)))
          (
          some ((0, false)))
          (
          let t := decide (k > (wI .i64 ((s.length : Int) - ata1)))
          cond (t)
            (
            some ((0, false)))
            (
            iter (fun st => R02_Get_s1 s ata1 k st.1 st.2) FUEL (0, 0))))))
def rx114 (x : Int × Bool) : SRes := ⟨.tuple ⟨[.int .u64 x.1, .bool x.2]⟩, [], []⟩
def r114 (g : (List UInt8) → Int → Int → Option (Int × Bool)) : Dec := dV asS fun (y0 : List UInt8) => dV (asI .i64) fun (y1 : Int) => dV (asI .i64) fun (y2 : Int) => dEnd (ofG (g y0 y1 y2) rx114)
theorem r114_c {g : (List UInt8) → Int → Int → Option (Int × Bool)} {y0 : List UInt8} {y1 : Int} {y2 : Int} {x : Int × Bool} (hx : g y0 y1 y2 = some x) : r114 g [.string ⟨⟨y0⟩⟩, .int .i64 y1, .int .i64 y2] [] = some (rx114 x) := (dV_eq (asS_c)).trans ((dV_eq (asI_c _)).trans ((dV_eq (asI_c _)).trans (ofG_eq hx)))
def s114 (g : (List UInt8) → Int → Int → Option (Int × Bool)) : Summ := ⟨[.v, .v, .v], r114 g⟩
theorem r114_eq {g : (List UInt8) → Int → Int → Option (Int × Bool)} {y0 : List UInt8} {y1 : Int} {y2 : Int} {x : Int × Bool} (hx : g y0 y1 y2 = some x) : (s114 g).run [.string ⟨⟨y0⟩⟩, .int .i64 y1, .int .i64 y2] [] = some (rx114 x) := r114_c hx
abbrev sums114 : List (Nat × Summ) := []
def head114_1 (s : List UInt8) (ata1 : Int) (k : Int) (n : Int) (i : Int) : VM :=
  ⟨⟨114, 49, [(0, .string ⟨⟨s⟩⟩), (1, .int .i64 ata1), (2, .int .i64 k), (8, .int .u64 n), (9, .int .i64 i)], [.code k114_15, .inLoop k114_15, .inBlock 0, .code k114_20], [], false, none⟩, [], [], 0⟩
theorem loop114_1 (hS : SumsOK Try.prog (aget (sums114))) (s : List UInt8) (ata1 : Int) (k : Int) (res : Int × Bool) : ∀ fuel (st : Int × Int) (o : Int × Bool), iter (fun st => R02_Get_s1 s ata1 k st.1 st.2) fuel st = some o → (o = res) →
    Leads Try.prog 114 0 (head114_1 s ata1 k st.1 st.2) (fun v H _ => Res 0 (rx114 res) v H) := by
  intro fuel st o h hc
  refine iter_leads (head := fun st => head114_1 s ata1 k st.1 st.2) (C := fun o => (o = res)) ?_ fuel st o h hc
  clear h hc o st fuel
  intro st o h hc
  obtain ⟨n, i⟩ := st
  replace h : R02_Get_s1 s ata1 k n i = some o := h
  show Leads Try.prog 114 0 (head114_1 s ata1 k n i) (fun v H _ => Res 0 (rx114 res) v H)
  unfold R02_Get_s1 at h
  refine ev_ok tab_ok hS true 3000 ?_
  conv => whnf
  refine br.h2 h ?_ ?_ ?_
  · rfl
  · clear h; intro hb h; conv => whnf
    all_goals (cases h; cases hc; exact Res.z rfl rfl rfl)
  clear h; intro hb h; conv => whnf
  replace h := oreq.elim h; obtain ⟨hb, h⟩ := h
  first | (refine req.intro hb ?_; conv => whnf) | skip
  replace h := obind.elim h; obtain ⟨b, hy, h⟩ := h
  refine rdS.intro hy ?_
  conv => whnf
  let t1 : Int := wI .u64 ((wI .u64 (n * 256)) + (wI .u64 (b.toNat : Int)))
  cases h; simp only [Sum.elim_inl, head114_1] at hc
  refine Leads.re hc [] rfl ?_ ?_ <;> (repeat' first | exact trivial | refine ⟨⟨_, rfl, rfl⟩, ?_⟩ | refine ⟨⟨_, _, rfl, rfl, .rowF (vI_flat _ _) id⟩, ?_⟩ | refine ⟨⟨_, _, rfl, rfl, .rowF (vS_flat _) id⟩, ?_⟩ | refine ⟨⟨_, _, rfl, rfl, .rowF (vB_flat _) id⟩, ?_⟩ | refine ⟨⟨_, _, rfl, rfl, .rowF (vT_flat (by first | exact cicmp_Message_flat | exact capi_Addr_flat | exact coctet_Reader_flat | exact cArr2_Int_flat | exact cArr4_Arr2_Int_flat | exact cruntime_errorAddressString_flat | exact cudp_Head_flat | exact cipsix_Head_flat | exact cipfour_Head_flat | exact capi_Tuple_flat | exact ctcp_Head_flat) _) id⟩, ?_⟩ | refine ⟨⟨_, _, rfl, rfl, .tyF (vI_flat _ _)⟩, ?_⟩ | refine ⟨⟨_, _, rfl, rfl, .ty rfl⟩, ?_⟩ | refine ⟨⟨_, _, rfl, rfl, .cells rfl⟩, ?_⟩ | refine ⟨⟨_, _, rfl, rfl, .row rfl id⟩, ?_⟩ | refine ⟨⟨_, _, rfl, rfl, .cr rfl⟩, ?_⟩ | refine ⟨⟨_, _, rfl, rfl, .rc rfl⟩, ?_⟩ | refine ⟨⟨_, _, rfl, rfl, .marks⟩, ?_⟩ | refine ⟨⟨_, _, rfl, rfl, .siter _ _⟩, ?_⟩ | refine ⟨⟨_, _, rfl, rfl, .loop rfl rfl rfl rfl (by repeat' first | exact trivial | refine ⟨rfl, ?_⟩) rfl rfl rfl rfl⟩, ?_⟩)
theorem leads114 (hS : SumsOK Try.prog (aget (sums114))) (s : List UInt8) (ata1 : Int) (k : Int) (res : Int × Bool) (h : R02_GetF s ata1 k = some res) :
    Leads Try.prog 114 0 ⟨⟨114, 49, [(0, .string ⟨⟨s⟩⟩), (1, .int .i64 ata1), (2, .int .i64 k)], [.code k114_24], [], false, none⟩, [], [], 0⟩ (fun v H _ => Res 0 (rx114 res) v H) := by
  unfold R02_GetF at h
  refine ev_ok tab_ok hS true 3000 ?_
  conv => whnf
  refine br.h h ?_ ?_ ?_
  · rfl
  · clear h; intro hb h; conv => whnf
    all_goals (cases h; exact Res.z rfl rfl rfl)
  clear h; intro hb h; conv => whnf
  refine br.h h ?_ ?_ ?_
  · rfl
  · clear h; intro hb h; conv => whnf
    all_goals (cases h; exact Res.z rfl rfl rfl)
  clear h; intro hb h; conv => whnf
  refine br.h h ?_ ?_ ?_
  · rfl
  · clear h; intro hb h; conv => whnf
    all_goals (cases h; exact Res.z rfl rfl rfl)
  clear h; intro hb h; conv => whnf
  refine br.h h ?_ ?_ ?_
  · rfl
  · clear h; intro hb h; conv => whnf
    all_goals (cases h; exact Res.z rfl rfl rfl)
  clear h; intro hb h; conv => whnf
  let t : Bool := decide (k > (wI .i64 ((s.length : Int) - ata1)))
  refine br.h h ?_ ?_ ?_
  · rfl
  · clear h; intro hb h; conv => whnf
    all_goals (cases h; exact Res.z rfl rfl rfl)
  clear h; intro hb h; conv => whnf
  have hl := loop114_1 hS _ _ _ res _ _ _ h rfl; simp only [head114_1] at hl
  refine Leads.re hl [] rfl ?_ ?_ <;> (repeat' first | exact trivial | refine ⟨⟨_, rfl, rfl⟩, ?_⟩ | refine ⟨⟨_, _, rfl, rfl, .rowF (vI_flat _ _) id⟩, ?_⟩ | refine ⟨⟨_, _, rfl, rfl, .rowF (vS_flat _) id⟩, ?_⟩ | refine ⟨⟨_, _, rfl, rfl, .rowF (vB_flat _) id⟩, ?_⟩ | refine ⟨⟨_, _, rfl, rfl, .rowF (vT_flat (by first | exact cicmp_Message_flat | exact capi_Addr_flat | exact coctet_Reader_flat | exact cArr2_Int_flat | exact cArr4_Arr2_Int_flat | exact cruntime_errorAddressString_flat | exact cudp_Head_flat | exact cipsix_Head_flat | exact cipfour_Head_flat | exact capi_Tuple_flat | exact ctcp_Head_flat) _) id⟩, ?_⟩ | refine ⟨⟨_, _, rfl, rfl, .tyF (vI_flat _ _)⟩, ?_⟩ | refine ⟨⟨_, _, rfl, rfl, .ty rfl⟩, ?_⟩ | refine ⟨⟨_, _, rfl, rfl, .cells rfl⟩, ?_⟩ | refine ⟨⟨_, _, rfl, rfl, .row rfl id⟩, ?_⟩ | refine ⟨⟨_, _, rfl, rfl, .cr rfl⟩, ?_⟩ | refine ⟨⟨_, _, rfl, rfl, .rc rfl⟩, ?_⟩ | refine ⟨⟨_, _, rfl, rfl, .marks⟩, ?_⟩ | refine ⟨⟨_, _, rfl, rfl, .siter _ _⟩, ?_⟩ | refine ⟨⟨_, _, rfl, rfl, .loop rfl rfl rfl rfl (by repeat' first | exact trivial | refine ⟨rfl, ?_⟩) rfl rfl rfl rfl⟩, ?_⟩)
theorem ok114 (hS : SumsOK Try.prog (aget (sums114))) : SumOK Try.prog 114 (s114 (R02_GetF)) := by
  refine SumOK.of_leads tab_ok (fun ar os r ha hr => ?_) ⟨Try.f114, rfl, by decide, rfl⟩
  replace hr : r114 (R02_GetF) ar (conts os) = some r := hr
  unfold r114 at hr
  generalize hc : conts os = C at hr
  replace hr := dV.elim hr; obtain ⟨v0, l1, y0, rfl, e0, hr⟩ := hr; obtain rfl := asS_eq _ _ e0
  replace hr := dV.elim hr; obtain ⟨v1, l2, y1, rfl, e1, hr⟩ := hr; obtain rfl := asI_eq _ _ _ e1
  replace hr := dV.elim hr; obtain ⟨v2, l3, y2, rfl, e2, hr⟩ := hr; obtain rfl := asI_eq _ _ _ e2
  replace hr := dFin hr; obtain ⟨rfl, rfl, x, h, rfl⟩ := hr
  obtain rfl := kinds_nil hc
  exact ⟨_, rfl, leads114 hS _ _ _ x h⟩
def R02_Get : (List UInt8) → Int → Int → Option (Int × Bool) := R02_GetF
theorem lift114 : SumOK Try.prog 114 (s114 R02_Get) := ok114 (SumsOK.of_tab trivial)
def R02_MustF (R02_Get : (List UInt8) → Int → Int → Option (Int × Bool)) (s : List UInt8) (ata1 : Int) (k : Int) : Option Int :=
  (R02_Get s ata1 k).bind fun xg =>
  some (wI .i64 xg.1)
def rx74 (x : Int) : SRes := ⟨.int .i64 x, [], []⟩
def r74 (g : (List UInt8) → Int → Int → Option Int) : Dec := dV asS fun (y0 : List UInt8) => dV (asI .i64) fun (y1 : Int) => dV (asI .i64) fun (y2 : Int) => dEnd (ofG (g y0 y1 y2) rx74)
theorem r74_c {g : (List UInt8) → Int → Int → Option Int} {y0 : List UInt8} {y1 : Int} {y2 : Int} {x : Int} (hx : g y0 y1 y2 = some x) : r74 g [.string ⟨⟨y0⟩⟩, .int .i64 y1, .int .i64 y2] [] = some (rx74 x) := (dV_eq (asS_c)).trans ((dV_eq (asI_c _)).trans ((dV_eq (asI_c _)).trans (ofG_eq hx)))
def s74 (g : (List UInt8) → Int → Int → Option Int) : Summ := ⟨[.v, .v, .v], r74 g⟩
theorem r74_eq {g : (List UInt8) → Int → Int → Option Int} {y0 : List UInt8} {y1 : Int} {y2 : Int} {x : Int} (hx : g y0 y1 y2 = some x) : (s74 g).run [.string ⟨⟨y0⟩⟩, .int .i64 y1, .int .i64 y2] [] = some (rx74 x) := r74_c hx
abbrev sums74 (R02_Get : (List UInt8) → Int → Int → Option (Int × Bool)) : List (Nat × Summ) := [(114, s114 R02_Get)]
theorem leads74 (R02_Get : (List UInt8) → Int → Int → Option (Int × Bool)) (hS : SumsOK Try.prog (aget (sums74 R02_Get))) (s : List UInt8) (ata1 : Int) (k : Int) (res : Int) (h : R02_MustF R02_Get s ata1 k = some res) :
    Leads Try.prog 74 0 ⟨⟨74, 18, [(0, .string ⟨⟨s⟩⟩), (1, .int .i64 ata1), (2, .int .i64 k)], [.code k74_5], [], false, none⟩, [], [], 0⟩ (fun v H _ => Res 0 (rx74 res) v H) := by
  unfold R02_MustF at h
  refine ev_ok tab_ok hS true 3000 ?_
  conv => whnf
  replace h := obind.elim h; obtain ⟨xg, hy, h⟩ := h
  refine sumK.q rfl rfl (r114_eq hy) rfl rfl rfl ?_
  conv => whnf
  all_goals (cases h; exact Res.z rfl rfl rfl)
theorem ok74 (R02_Get : (List UInt8) → Int → Int → Option (Int × Bool)) (hS : SumsOK Try.prog (aget (sums74 R02_Get))) : SumOK Try.prog 74 (s74 (R02_MustF R02_Get)) := by
  refine SumOK.of_leads tab_ok (fun ar os r ha hr => ?_) ⟨Try.f74, rfl, by decide, rfl⟩
  replace hr : r74 (R02_MustF R02_Get) ar (conts os) = some r := hr
  unfold r74 at hr
  generalize hc : conts os = C at hr
  replace hr := dV.elim hr; obtain ⟨v0, l1, y0, rfl, e0, hr⟩ := hr; obtain rfl := asS_eq _ _ e0
  replace hr := dV.elim hr; obtain ⟨v1, l2, y1, rfl, e1, hr⟩ := hr; obtain rfl := asI_eq _ _ _ e1
  replace hr := dV.elim hr; obtain ⟨v2, l3, y2, rfl, e2, hr⟩ := hr; obtain rfl := asI_eq _ _ _ e2
  replace hr := dFin hr; obtain ⟨rfl, rfl, x, h, rfl⟩ := hr
  obtain rfl := kinds_nil hc
  exact ⟨_, rfl, leads74 R02_Get hS _ _ _ x h⟩
def R02_Must : (List UInt8) → Int → Int → Option Int := R02_MustF R02_Get
theorem lift74 : SumOK Try.prog 74 (s74 R02_Must) := ok74 R02_Get (SumsOK.of_tab ⟨lift114, trivial⟩)
def check_SetF (octet_Put : Int → Int → Option (List UInt8)) (s : List UInt8) (ata1 : Int) (k : Int) (n : Int) : Option (List UInt8) :=
  (octet_Put n k).bind fun p =>
  cond (p == [])
    (
    some (s))
    (
    cond (decide (ata1 < 0))
      (
      some (s))
      (
      let t := decide ((wI .i64 ((s.length : Int) - k)) < ata1)
      cond (t)
        (
        some (s))
        (
        oreq (decide ((0 : Int) ≤ ata1 ∧ ata1 ≤ (s.length : Int))) <|
        oreq (decide ((s.take ata1.toNat).length + p.length < 2 ^ 63)) <|
        oreq (decide ((0 : Int) ≤ (wI .i64 (ata1 + k)) ∧ (wI .i64 (ata1 + k)) ≤ (s.length : Int))) <|
        let t1 := (s.drop (wI .i64 (ata1 + k)).toNat).take (s.length - (wI .i64 (ata1 + k)).toNat)
        oreq (decide (((s.take ata1.toNat) ++ p).length + t1.length < 2 ^ 63)) <|
        some (((s.take ata1.toNat) ++ p) ++ t1))))
def rx65 (x : List UInt8) : SRes := ⟨.string ⟨⟨x⟩⟩, [], []⟩
def r65 (g : (List UInt8) → Int → Int → Int → Option (List UInt8)) : Dec := dV asS fun (y0 : List UInt8) => dV (asI .i64) fun (y1 : Int) => dV (asI .i64) fun (y2 : Int) => dV (asI .u64) fun (y3 : Int) => dEnd (ofG (g y0 y1 y2 y3) rx65)
theorem r65_c {g : (List UInt8) → Int → Int → Int → Option (List UInt8)} {y0 : List UInt8} {y1 : Int} {y2 : Int} {y3 : Int} {x : List UInt8} (hx : g y0 y1 y2 y3 = some x) : r65 g [.string ⟨⟨y0⟩⟩, .int .i64 y1, .int .i64 y2, .int .u64 y3] [] = some (rx65 x) := (dV_eq (asS_c)).trans ((dV_eq (asI_c _)).trans ((dV_eq (asI_c _)).trans ((dV_eq (asI_c _)).trans (ofG_eq hx))))
def s65 (g : (List UInt8) → Int → Int → Int → Option (List UInt8)) : Summ := ⟨[.v, .v, .v, .v], r65 g⟩
theorem r65_eq {g : (List UInt8) → Int → Int → Int → Option (List UInt8)} {y0 : List UInt8} {y1 : Int} {y2 : Int} {y3 : Int} {x : List UInt8} (hx : g y0 y1 y2 y3 = some x) : (s65 g).run [.string ⟨⟨y0⟩⟩, .int .i64 y1, .int .i64 y2, .int .u64 y3] [] = some (rx65 x) := r65_c hx
abbrev sums65 (octet_Put : Int → Int → Option (List UInt8)) : List (Nat × Summ) := [(62, s62 octet_Put)]
theorem leads65 (octet_Put : Int → Int → Option (List UInt8)) (hS : SumsOK Try.prog (aget (sums65 octet_Put))) (s : List UInt8) (ata1 : Int) (k : Int) (n : Int) (res : List UInt8) (h : check_SetF octet_Put s ata1 k n = some res) :
    Leads Try.prog 65 0 ⟨⟨65, 39, [(0, .string ⟨⟨s⟩⟩), (1, .int .i64 ata1), (2, .int .i64 k), (3, .int .u64 n)], [.code k65_11], [], false, none⟩, [], [], 0⟩ (fun v H _ => Res 0 (rx65 res) v H) := by
  unfold check_SetF at h
  refine ev_ok tab_ok hS true 3000 ?_
  conv => whnf
  replace h := obind.elim h; obtain ⟨p, hy, h⟩ := h
  refine sumK.q rfl rfl (r62_eq hy) rfl rfl rfl ?_
  conv => whnf
  refine br.h h ?_ ?_ ?_
  · rfl
  · clear h; intro hb h; conv => whnf
    all_goals (cases h; exact Res.z rfl rfl rfl)
  clear h; intro hb h; conv => whnf
  refine br.h h ?_ ?_ ?_
  · rfl
  · clear h; intro hb h; conv => whnf
    all_goals (cases h; exact Res.z rfl rfl rfl)
  clear h; intro hb h; conv => whnf
  let t : Bool := decide ((wI .i64 ((s.length : Int) - k)) < ata1)
  refine br.h h ?_ ?_ ?_
  · rfl
  · clear h; intro hb h; conv => whnf
    all_goals (cases h; exact Res.z rfl rfl rfl)
  clear h; intro hb h; conv => whnf
  replace h := oreq.elim h; obtain ⟨hb, h⟩ := h
  first | (refine req.intro hb ?_; conv => whnf) | skip
  replace h := oreq.elim h; obtain ⟨hb, h⟩ := h
  first | (refine req.intro hb ?_; conv => whnf) | skip
  replace h := oreq.elim h; obtain ⟨hb, h⟩ := h
  first | (refine req.intro hb ?_; conv => whnf) | skip
  let t1 : List UInt8 := (s.drop (wI .i64 (ata1 + k)).toNat).take (s.length - (wI .i64 (ata1 + k)).toNat)
  replace h := oreq.elim h; obtain ⟨hb, h⟩ := h
  first | (refine req.intro hb ?_; conv => whnf) | skip
  all_goals (cases h; exact Res.z rfl rfl rfl)
theorem ok65 (octet_Put : Int → Int → Option (List UInt8)) (hS : SumsOK Try.prog (aget (sums65 octet_Put))) : SumOK Try.prog 65 (s65 (check_SetF octet_Put)) := by
  refine SumOK.of_leads tab_ok (fun ar os r ha hr => ?_) ⟨Try.f65, rfl, by decide, rfl⟩
  replace hr : r65 (check_SetF octet_Put) ar (conts os) = some r := hr
  unfold r65 at hr
  generalize hc : conts os = C at hr
  replace hr := dV.elim hr; obtain ⟨v0, l1, y0, rfl, e0, hr⟩ := hr; obtain rfl := asS_eq _ _ e0
  replace hr := dV.elim hr; obtain ⟨v1, l2, y1, rfl, e1, hr⟩ := hr; obtain rfl := asI_eq _ _ _ e1
  replace hr := dV.elim hr; obtain ⟨v2, l3, y2, rfl, e2, hr⟩ := hr; obtain rfl := asI_eq _ _ _ e2
  replace hr := dV.elim hr; obtain ⟨v3, l4, y3, rfl, e3, hr⟩ := hr; obtain rfl := asI_eq _ _ _ e3
  replace hr := dFin hr; obtain ⟨rfl, rfl, x, h, rfl⟩ := hr
  obtain rfl := kinds_nil hc
  exact ⟨_, rfl, leads65 octet_Put hS _ _ _ _ x h⟩
def check_Set : (List UInt8) → Int → Int → Int → Option (List UInt8) := check_SetF octet_Put
theorem lift65 : SumOK Try.prog 65 (s65 check_Set) := ok65 octet_Put (SumsOK.of_tab ⟨lift62, trivial⟩)
def R03_SetF (R02_Get : (List UInt8) → Int → Int → Option (Int × Bool)) (R02_Put : Int → Int → Option (List UInt8)) (s : List UInt8) (ata1 : Int) (k : Int) (n : Int) : Option (List UInt8) :=
  (R02_Get s ata1 k).bind fun xg =>
  cond (!xg.2)
    (
    some (s))
    (
    oreq (decide ((0 : Int) ≤ ata1 ∧ ata1 ≤ (s.length : Int))) <|
    (R02_Put n k).bind fun p =>
    oreq (decide ((s.take ata1.toNat).length + p.length < 2 ^ 63)) <|
    oreq (decide ((0 : Int) ≤ (wI .i64 (ata1 + k)) ∧ (wI .i64 (ata1 + k)) ≤ (s.length : Int))) <|
    let t := (s.drop (wI .i64 (ata1 + k)).toNat).take (s.length - (wI .i64 (ata1 + k)).toNat)
    oreq (decide (((s.take ata1.toNat) ++ p).length + t.length < 2 ^ 63)) <|
    some (((s.take ata1.toNat) ++ p) ++ t))
def rx69 (x : List UInt8) : SRes := ⟨.string ⟨⟨x⟩⟩, [], []⟩
def r69 (g : (List UInt8) → Int → Int → Int → Option (List UInt8)) : Dec := dV asS fun (y0 : List UInt8) => dV (asI .i64) fun (y1 : Int) => dV (asI .i64) fun (y2 : Int) => dV (asI .u64) fun (y3 : Int) => dEnd (ofG (g y0 y1 y2 y3) rx69)
theorem r69_c {g : (List UInt8) → Int → Int → Int → Option (List UInt8)} {y0 : List UInt8} {y1 : Int} {y2 : Int} {y3 : Int} {x : List UInt8} (hx : g y0 y1 y2 y3 = some x) : r69 g [.string ⟨⟨y0⟩⟩, .int .i64 y1, .int .i64 y2, .int .u64 y3] [] = some (rx69 x) := (dV_eq (asS_c)).trans ((dV_eq (asI_c _)).trans ((dV_eq (asI_c _)).trans ((dV_eq (asI_c _)).trans (ofG_eq hx))))
def s69 (g : (List UInt8) → Int → Int → Int → Option (List UInt8)) : Summ := ⟨[.v, .v, .v, .v], r69 g⟩
theorem r69_eq {g : (List UInt8) → Int → Int → Int → Option (List UInt8)} {y0 : List UInt8} {y1 : Int} {y2 : Int} {y3 : Int} {x : List UInt8} (hx : g y0 y1 y2 y3 = some x) : (s69 g).run [.string ⟨⟨y0⟩⟩, .int .i64 y1, .int .i64 y2, .int .u64 y3] [] = some (rx69 x) := r69_c hx
abbrev sums69 (R02_Get : (List UInt8) → Int → Int → Option (Int × Bool)) (R02_Put : Int → Int → Option (List UInt8)) : List (Nat × Summ) := [(114, s114 R02_Get), (67, s67 R02_Put)]
theorem leads69 (R02_Get : (List UInt8) → Int → Int → Option (Int × Bool)) (R02_Put : Int → Int → Option (List UInt8)) (hS : SumsOK Try.prog (aget (sums69 R02_Get R02_Put))) (s : List UInt8) (ata1 : Int) (k : Int) (n : Int) (res : List UInt8) (h : R03_SetF R02_Get R02_Put s ata1 k n = some res) :
    Leads Try.prog 69 0 ⟨⟨69, 34, [(0, .string ⟨⟨s⟩⟩), (1, .int .i64 ata1), (2, .int .i64 k), (3, .int .u64 n)], [.code k69_11], [], false, none⟩, [], [], 0⟩ (fun v H _ => Res 0 (rx69 res) v H) := by
  unfold R03_SetF at h
  refine ev_ok tab_ok hS true 3000 ?_
  conv => whnf
  replace h := obind.elim h; obtain ⟨xg, hy, h⟩ := h
  refine sumK.q rfl rfl (r114_eq hy) rfl rfl rfl ?_
  conv => whnf
  refine br.h h ?_ ?_ ?_
  · rfl
  · clear h; intro hb h; conv => whnf
    all_goals (cases h; exact Res.z rfl rfl rfl)
  clear h; intro hb h; conv => whnf
  replace h := oreq.elim h; obtain ⟨hb, h⟩ := h
  first | (refine req.intro hb ?_; conv => whnf) | skip
  replace h := obind.elim h; obtain ⟨p, hy, h⟩ := h
  refine sumK.q rfl rfl (r67_eq hy) rfl rfl rfl ?_
  conv => whnf
  replace h := oreq.elim h; obtain ⟨hb, h⟩ := h
  first | (refine req.intro hb ?_; conv => whnf) | skip
  replace h := oreq.elim h; obtain ⟨hb, h⟩ := h
  first | (refine req.intro hb ?_; conv => whnf) | skip
  let t : List UInt8 := (s.drop (wI .i64 (ata1 + k)).toNat).take (s.length - (wI .i64 (ata1 + k)).toNat)
  replace h := oreq.elim h; obtain ⟨hb, h⟩ := h
  first | (refine req.intro hb ?_; conv => whnf) | skip
  all_goals (cases h; exact Res.z rfl rfl rfl)
theorem ok69 (R02_Get : (List UInt8) → Int → Int → Option (Int × Bool)) (R02_Put : Int → Int → Option (List UInt8)) (hS : SumsOK Try.prog (aget (sums69 R02_Get R02_Put))) : SumOK Try.prog 69 (s69 (R03_SetF R02_Get R02_Put)) := by
  refine SumOK.of_leads tab_ok (fun ar os r ha hr => ?_) ⟨Try.f69, rfl, by decide, rfl⟩
  replace hr : r69 (R03_SetF R02_Get R02_Put) ar (conts os) = some r := hr
  unfold r69 at hr
  generalize hc : conts os = C at hr
  replace hr := dV.elim hr; obtain ⟨v0, l1, y0, rfl, e0, hr⟩ := hr; obtain rfl := asS_eq _ _ e0
  replace hr := dV.elim hr; obtain ⟨v1, l2, y1, rfl, e1, hr⟩ := hr; obtain rfl := asI_eq _ _ _ e1
  replace hr := dV.elim hr; obtain ⟨v2, l3, y2, rfl, e2, hr⟩ := hr; obtain rfl := asI_eq _ _ _ e2
  replace hr := dV.elim hr; obtain ⟨v3, l4, y3, rfl, e3, hr⟩ := hr; obtain rfl := asI_eq _ _ _ e3
  replace hr := dFin hr; obtain ⟨rfl, rfl, x, h, rfl⟩ := hr
  obtain rfl := kinds_nil hc
  exact ⟨_, rfl, leads69 R02_Get R02_Put hS _ _ _ _ x h⟩
def R03_Set : (List UInt8) → Int → Int → Int → Option (List UInt8) := R03_SetF R02_Get R02_Put
theorem lift69 : SumOK Try.prog 69 (s69 R03_Set) := ok69 R02_Get R02_Put (SumsOK.of_tab ⟨lift114, lift67, trivial⟩)
def R03_Add_s1 (l : List Int) (n1 : Int) : Option (Sum Int Int) :=
  cond (decide (n1 > 65535))
    (
    let t := wI .i64 ((n1.tmod 65536) + (wI .i64 (n1.tdiv 65536)))
    some (.inl t))
    (
    some (.inr (n1)))
def R03_Add_s2 (l : List Int) (n : Int) (i : Int) : Option (Sum (Int × Int) Int) :=
  cond (decide (i < (l.length : Int)))
    (
    oreq (decide ((0 : Int) ≤ i ∧ i < (l.length : Int))) <|
    (l[i.toNat]?).bind fun (e : Int) =>
    some (.inl (wI .i64 (n + e), wI .i64 (i + 1))))
    (
    (iter (fun st => R03_Add_s1 l st) FUEL n).bind fun o => some (.inr (o)))
def R03_AddF (l : List Int) : Option Int :=
  iter (fun st => R03_Add_s2 l st.1 st.2) FUEL (0, 0)
def rx115 (x : Int) : SRes := ⟨.int .i64 x, [], [none]⟩
def r115 (g : (List Int) → Option Int) : Dec := dSl 0 1 (unL (asI .i64)) fun (y0 : List Int) => dEnd (ofG (g y0) rx115)
theorem r115_c {g : (List Int) → Option Int} {y0 : List Int} {x : Int} (hx : g y0 = some x) : r115 g [.slice (some ⟨0, 0, none⟩) y0.length 1] [some (vI .i64 y0)] = some (rx115 x) := (dSl_eq (unI_vI _ _)).trans (ofG_eq hx)
def s115 (g : (List Int) → Option Int) : Summ := ⟨[.sl 1], r115 g⟩
theorem r115_eq {g : (List Int) → Option Int} {y0 : List Int} {x : Int} (hx : g y0 = some x) : (s115 g).run [.slice (some ⟨0, 0, none⟩) y0.length 1] [some (vI .i64 y0)] = some (rx115 x) := r115_c hx
abbrev sums115 : List (Nat × Summ) := []
def head115_1 (l : List Int) (n1 : Int) : VM :=
  ⟨⟨115, 25, [(3, .int .i64 n1)], [.code k115_19, .inLoop k115_19, .inBlock 2, .code k115_23], [], false, none⟩, [], [(0, .row false (vI .i64 l))], 1⟩
def head115_2 (l : List Int) (n : Int) (i : Int) : VM :=
  ⟨⟨115, 25, [(0, .slice (some ⟨0, 0, none⟩) l.length 1), (3, .int .i64 n), (4, .int .i64 i)], [.code k115_10, .inLoop k115_10, .inBlock 0, .code k115_24], [], false, none⟩, [], [(0, .row false (vI .i64 l))], 1⟩
theorem loop115_1 (hS : SumsOK Try.prog (aget (sums115))) (l : List Int) (res : Int) : ∀ fuel (st : Int) (o : Int), iter (fun st => R03_Add_s1 l st) fuel st = some o → (o = res) →
    Leads Try.prog 115 1 (head115_1 l st) (fun v H _ => Res 1 (rx115 res) v H) := by
  intro fuel st o h hc
  refine iter_leads (head := fun st => head115_1 l st) (C := fun o => (o = res)) ?_ fuel st o h hc
  clear h hc o st fuel
  intro n1 o h hc
  replace h : R03_Add_s1 l n1 = some o := h
  show Leads Try.prog 115 1 (head115_1 l n1) (fun v H _ => Res 1 (rx115 res) v H)
  unfold R03_Add_s1 at h
  refine ev_ok tab_ok hS true 3000 ?_
  conv => whnf
  refine br.h2 h ?_ ?_ ?_
  · rfl
  · clear h; intro hb h; conv => whnf
    all_goals (cases h; cases hc)
    all_goals exact Res.of [] rfl nw_0 (by decide) js_0 (wr_n wr_0)
  clear h; intro hb h; conv => whnf
  let t : Int := wI .i64 ((n1.tmod 65536) + (wI .i64 (n1.tdiv 65536)))
  cases h; simp only [Sum.elim_inl, head115_1] at hc
  refine Leads.re hc [(0, 0)] rfl ?_ ?_ <;> (repeat' first | exact trivial | refine ⟨⟨_, rfl, rfl⟩, ?_⟩ | refine ⟨⟨_, _, rfl, rfl, .rowF (vI_flat _ _) id⟩, ?_⟩ | refine ⟨⟨_, _, rfl, rfl, .rowF (vS_flat _) id⟩, ?_⟩ | refine ⟨⟨_, _, rfl, rfl, .rowF (vB_flat _) id⟩, ?_⟩ | refine ⟨⟨_, _, rfl, rfl, .rowF (vT_flat (by first | exact cicmp_Message_flat | exact capi_Addr_flat | exact coctet_Reader_flat | exact cArr2_Int_flat | exact cArr4_Arr2_Int_flat | exact cruntime_errorAddressString_flat | exact cudp_Head_flat | exact cipsix_Head_flat | exact cipfour_Head_flat | exact capi_Tuple_flat | exact ctcp_Head_flat) _) id⟩, ?_⟩ | refine ⟨⟨_, _, rfl, rfl, .tyF (vI_flat _ _)⟩, ?_⟩ | refine ⟨⟨_, _, rfl, rfl, .ty rfl⟩, ?_⟩ | refine ⟨⟨_, _, rfl, rfl, .cells rfl⟩, ?_⟩ | refine ⟨⟨_, _, rfl, rfl, .row rfl id⟩, ?_⟩ | refine ⟨⟨_, _, rfl, rfl, .cr rfl⟩, ?_⟩ | refine ⟨⟨_, _, rfl, rfl, .rc rfl⟩, ?_⟩ | refine ⟨⟨_, _, rfl, rfl, .marks⟩, ?_⟩ | refine ⟨⟨_, _, rfl, rfl, .siter _ _⟩, ?_⟩ | refine ⟨⟨_, _, rfl, rfl, .loop rfl rfl rfl rfl (by repeat' first | exact trivial | refine ⟨rfl, ?_⟩) rfl rfl rfl rfl⟩, ?_⟩)
theorem loop115_2 (hS : SumsOK Try.prog (aget (sums115))) (l : List Int) (res : Int) : ∀ fuel (st : Int × Int) (o : Int), iter (fun st => R03_Add_s2 l st.1 st.2) fuel st = some o → (o = res) →
    Leads Try.prog 115 1 (head115_2 l st.1 st.2) (fun v H _ => Res 1 (rx115 res) v H) := by
  intro fuel st o h hc
  refine iter_leads (head := fun st => head115_2 l st.1 st.2) (C := fun o => (o = res)) ?_ fuel st o h hc
  clear h hc o st fuel
  intro st o h hc
  obtain ⟨n, i⟩ := st
  replace h : R03_Add_s2 l n i = some o := h
  show Leads Try.prog 115 1 (head115_2 l n i) (fun v H _ => Res 1 (rx115 res) v H)
  unfold R03_Add_s2 at h
  refine ev_ok tab_ok hS true 3000 ?_
  conv => whnf
  refine br.h2 h ?_ ?_ ?_
  · rfl
  · clear h; intro hb h; conv => whnf
    obtain ⟨y, hy, h2⟩ := obind.elim h; cases h2
    have hl := loop115_1 hS _ res _ _ _ hy hc; simp only [head115_1] at hl
    refine Leads.re hl [(0, 0)] rfl ?_ ?_ <;> (repeat' first | exact trivial | refine ⟨⟨_, rfl, rfl⟩, ?_⟩ | refine ⟨⟨_, _, rfl, rfl, .rowF (vI_flat _ _) id⟩, ?_⟩ | refine ⟨⟨_, _, rfl, rfl, .rowF (vS_flat _) id⟩, ?_⟩ | refine ⟨⟨_, _, rfl, rfl, .rowF (vB_flat _) id⟩, ?_⟩ | refine ⟨⟨_, _, rfl, rfl, .rowF (vT_flat (by first | exact cicmp_Message_flat | exact capi_Addr_flat | exact coctet_Reader_flat | exact cArr2_Int_flat | exact cArr4_Arr2_Int_flat | exact cruntime_errorAddressString_flat | exact cudp_Head_flat | exact cipsix_Head_flat | exact cipfour_Head_flat | exact capi_Tuple_flat | exact ctcp_Head_flat) _) id⟩, ?_⟩ | refine ⟨⟨_, _, rfl, rfl, .tyF (vI_flat _ _)⟩, ?_⟩ | refine ⟨⟨_, _, rfl, rfl, .ty rfl⟩, ?_⟩ | refine ⟨⟨_, _, rfl, rfl, .cells rfl⟩, ?_⟩ | refine ⟨⟨_, _, rfl, rfl, .row rfl id⟩, ?_⟩ | refine ⟨⟨_, _, rfl, rfl, .cr rfl⟩, ?_⟩ | refine ⟨⟨_, _, rfl, rfl, .rc rfl⟩, ?_⟩ | refine ⟨⟨_, _, rfl, rfl, .marks⟩, ?_⟩ | refine ⟨⟨_, _, rfl, rfl, .siter _ _⟩, ?_⟩ | refine ⟨⟨_, _, rfl, rfl, .loop rfl rfl rfl rfl (by repeat' first | exact trivial | refine ⟨rfl, ?_⟩) rfl rfl rfl rfl⟩, ?_⟩)
  clear h; intro hb h; conv => whnf
  replace h := oreq.elim h; obtain ⟨hb, h⟩ := h
  first | (refine req.intro hb ?_; conv => whnf) | skip
  replace h := obind.elim h; obtain ⟨e, hy, h⟩ := h
  refine rd.I hy (by first | rfl | (rw [Nat.zero_add, Nat.mul_one]; done) | omega) ?_
  conv => whnf
  cases h; simp only [Sum.elim_inl, head115_2] at hc
  refine Leads.re hc [(0, 0)] rfl ?_ ?_ <;> (repeat' first | exact trivial | refine ⟨⟨_, rfl, rfl⟩, ?_⟩ | refine ⟨⟨_, _, rfl, rfl, .rowF (vI_flat _ _) id⟩, ?_⟩ | refine ⟨⟨_, _, rfl, rfl, .rowF (vS_flat _) id⟩, ?_⟩ | refine ⟨⟨_, _, rfl, rfl, .rowF (vB_flat _) id⟩, ?_⟩ | refine ⟨⟨_, _, rfl, rfl, .rowF (vT_flat (by first | exact cicmp_Message_flat | exact capi_Addr_flat | exact coctet_Reader_flat | exact cArr2_Int_flat | exact cArr4_Arr2_Int_flat | exact cruntime_errorAddressString_flat | exact cudp_Head_flat | exact cipsix_Head_flat | exact cipfour_Head_flat | exact capi_Tuple_flat | exact ctcp_Head_flat) _) id⟩, ?_⟩ | refine ⟨⟨_, _, rfl, rfl, .tyF (vI_flat _ _)⟩, ?_⟩ | refine ⟨⟨_, _, rfl, rfl, .ty rfl⟩, ?_⟩ | refine ⟨⟨_, _, rfl, rfl, .cells rfl⟩, ?_⟩ | refine ⟨⟨_, _, rfl, rfl, .row rfl id⟩, ?_⟩ | refine ⟨⟨_, _, rfl, rfl, .cr rfl⟩, ?_⟩ | refine ⟨⟨_, _, rfl, rfl, .rc rfl⟩, ?_⟩ | refine ⟨⟨_, _, rfl, rfl, .marks⟩, ?_⟩ | refine ⟨⟨_, _, rfl, rfl, .siter _ _⟩, ?_⟩ | refine ⟨⟨_, _, rfl, rfl, .loop rfl rfl rfl rfl (by repeat' first | exact trivial | refine ⟨rfl, ?_⟩) rfl rfl rfl rfl⟩, ?_⟩)
theorem leads115 (hS : SumsOK Try.prog (aget (sums115))) (l : List Int) (res : Int) (h : R03_AddF l = some res) :
    Leads Try.prog 115 1 ⟨⟨115, 25, [(0, .slice (some ⟨0, 0, none⟩) l.length 1)], [.code k115_27], [], false, none⟩, [], [(0, .row false (vI .i64 l))], 1⟩ (fun v H _ => Res 1 (rx115 res) v H) := by
  unfold R03_AddF at h
  refine ev_ok tab_ok hS true 3000 ?_
  conv => whnf
  have hl := loop115_2 hS _ res _ _ _ h rfl; simp only [head115_2] at hl
  refine Leads.re hl [(0, 0)] rfl ?_ ?_ <;> (repeat' first | exact trivial | refine ⟨⟨_, rfl, rfl⟩, ?_⟩ | refine ⟨⟨_, _, rfl, rfl, .rowF (vI_flat _ _) id⟩, ?_⟩ | refine ⟨⟨_, _, rfl, rfl, .rowF (vS_flat _) id⟩, ?_⟩ | refine ⟨⟨_, _, rfl, rfl, .rowF (vB_flat _) id⟩, ?_⟩ | refine ⟨⟨_, _, rfl, rfl, .rowF (vT_flat (by first | exact cicmp_Message_flat | exact capi_Addr_flat | exact coctet_Reader_flat | exact cArr2_Int_flat | exact cArr4_Arr2_Int_flat | exact cruntime_errorAddressString_flat | exact cudp_Head_flat | exact cipsix_Head_flat | exact cipfour_Head_flat | exact capi_Tuple_flat | exact ctcp_Head_flat) _) id⟩, ?_⟩ | refine ⟨⟨_, _, rfl, rfl, .tyF (vI_flat _ _)⟩, ?_⟩ | refine ⟨⟨_, _, rfl, rfl, .ty rfl⟩, ?_⟩ | refine ⟨⟨_, _, rfl, rfl, .cells rfl⟩, ?_⟩ | refine ⟨⟨_, _, rfl, rfl, .row rfl id⟩, ?_⟩ | refine ⟨⟨_, _, rfl, rfl, .cr rfl⟩, ?_⟩ | refine ⟨⟨_, _, rfl, rfl, .rc rfl⟩, ?_⟩ | refine ⟨⟨_, _, rfl, rfl, .marks⟩, ?_⟩ | refine ⟨⟨_, _, rfl, rfl, .siter _ _⟩, ?_⟩ | refine ⟨⟨_, _, rfl, rfl, .loop rfl rfl rfl rfl (by repeat' first | exact trivial | refine ⟨rfl, ?_⟩) rfl rfl rfl rfl⟩, ?_⟩)
theorem ok115 (hS : SumsOK Try.prog (aget (sums115))) : SumOK Try.prog 115 (s115 (R03_AddF)) := by
  refine SumOK.of_leads tab_ok (fun ar os r ha hr => ?_) ⟨Try.f115, rfl, by decide, rfl⟩
  replace hr : r115 (R03_AddF) ar (conts os) = some r := hr
  unfold r115 at hr
  generalize hc : conts os = C at hr
  have hq := dSl.elim hr; clear hr; obtain ⟨c0, l1, C, y0, rfl, rfl, e0, hr⟩ := hq; obtain rfl := unI_eq e0
  replace hr := dFin hr; obtain ⟨rfl, rfl, x, h, rfl⟩ := hr
  obtain ⟨os, rfl, ha, hc⟩ := kinds_some ha hc
  obtain rfl := kinds_nil hc
  exact ⟨_, rfl, leads115 hS _ x h⟩
def R03_Add : (List Int) → Option Int := R03_AddF
theorem lift115 : SumOK Try.prog 115 (s115 R03_Add) := ok115 (SumsOK.of_tab trivial)
def R03_Words_s1 (R02_Must : (List UInt8) → Int → Int → Option Int) (s1 : List UInt8) (i : Int) (out1 : List Int) : Option (Sum ((List UInt8) × Int × (List Int)) (List Int)) :=
  cond (decide (i < (s1.length : Int)))
    (
    (R02_Must s1 i 2).bind fun m =>
    oreq (decide ((out1.length + 1) * 8 ≤ 2 ^ 47)) <|
    let row := out1 ++ [m]
    some (.inl (s1, wI .i64 (i + 2), row)))
    (
    some (.inr (out1)))
def R03_WordsF (R02_Must : (List UInt8) → Int → Int → Option Int) (s : List UInt8) : Option (List Int) :=
  cond (((s.length : Int).tmod 2) == 1)
    (
    oreq (decide (s.length + 1 < 2 ^ 63)) <|
    iter (fun st => R03_Words_s1 R02_Must st.1 st.2.1 st.2.2) FUEL (s ++ [0], 0, []))
    (
    iter (fun st => R03_Words_s1 R02_Must st.1 st.2.1 st.2.2) FUEL (s, 0, []))
def rx116 (x : List Int) : SRes := ⟨.slice (some ⟨0, 0, none⟩) x.length 1, [(vI .i64 x)], []⟩
def r116 (g : (List UInt8) → Option (List Int)) : Dec := dV asS fun (y0 : List UInt8) => dEnd (ofG (g y0) rx116)
theorem r116_c {g : (List UInt8) → Option (List Int)} {y0 : List UInt8} {x : List Int} (hx : g y0 = some x) : r116 g [.string ⟨⟨y0⟩⟩] [] = some (rx116 x) := (dV_eq (asS_c)).trans (ofG_eq hx)
def s116 (g : (List UInt8) → Option (List Int)) : Summ := ⟨[.v], r116 g⟩
theorem r116_eq {g : (List UInt8) → Option (List Int)} {y0 : List UInt8} {x : List Int} (hx : g y0 = some x) : (s116 g).run [.string ⟨⟨y0⟩⟩] [] = some (rx116 x) := r116_c hx
abbrev sums116 (R02_Must : (List UInt8) → Int → Int → Option Int) : List (Nat × Summ) := [(74, s74 R02_Must)]
def head116_1 (s1 : List UInt8) (i : Int) (out1 : List Int) : VM :=
  ⟨⟨116, 24, [(0, .string ⟨⟨s1⟩⟩), (3, .slice (some ⟨0, 0, none⟩) out1.length 1), (4, .int .i64 i)], [.code k116_14, .inLoop k116_14, .inBlock 0, .code k116_19], [], false, none⟩, [], [(0, .row true (vI .i64 out1))], 1⟩
theorem loop116_1 (R02_Must : (List UInt8) → Int → Int → Option Int) (hS : SumsOK Try.prog (aget (sums116 R02_Must))) (res : List Int) : ∀ fuel (st : (List UInt8) × Int × (List Int)) (o : List Int), iter (fun st => R03_Words_s1 R02_Must st.1 st.2.1 st.2.2) fuel st = some o → (o = res) →
    Leads Try.prog 116 0 (head116_1 st.1 st.2.1 st.2.2) (fun v H _ => Res 0 (rx116 res) v H) := by
  intro fuel st o h hc
  refine iter_leads (head := fun st => head116_1 st.1 st.2.1 st.2.2) (C := fun o => (o = res)) ?_ fuel st o h hc
  clear h hc o st fuel
  intro st o h hc
  obtain ⟨s1, i, out1⟩ := st
  replace h : R03_Words_s1 R02_Must s1 i out1 = some o := h
  show Leads Try.prog 116 0 (head116_1 s1 i out1) (fun v H _ => Res 0 (rx116 res) v H)
  unfold R03_Words_s1 at h
  refine ev_ok tab_ok hS true 3000 ?_
  conv => whnf
  refine br.h2 h ?_ ?_ ?_
  · rfl
  · clear h; intro hb h; conv => whnf
    all_goals (cases h; cases hc)
    all_goals exact Res.of [0] rfl (nw_s (rn_I) (hs_row rfl) nw_0) (by decide) (js_l (by decide) js_0) wr_0
  clear h; intro hb h; conv => whnf
  replace h := obind.elim h; obtain ⟨m, hy, h⟩ := h
  refine sumK.q rfl rfl (r74_eq hy) rfl rfl rfl ?_
  conv => whnf
  replace h := oreq.elim h; obtain ⟨hb, h⟩ := h
  refine req.intro (ap_req (of_decide_eq_true hb) (by first | rfl | omega | (simp; done) | (simp; omega) | (simp at *; omega)) rfl (by first | rfl | omega | (simp; done) | (simp; omega) | (simp at *; omega)) (by first | rfl | exact vI_one _ _ | exact vS_one _ | exact vB_one _ | exact vT_one (by first | exact cicmp_Message_one | exact capi_Addr_one | exact coctet_Reader_one | exact cArr2_Int_one | exact cArr4_Arr2_Int_one | exact cruntime_errorAddressString_one | exact cudp_Head_one | exact cipsix_Head_one | exact cipfour_Head_one | exact capi_Tuple_one | exact ctcp_Head_one) _ | (rw [ofBytes_vI]; exact vI_one _ _) | simp [vI_one, vS_one, vB_one, vI_drop, vI_take, vS_drop, vS_take]) rfl) ?_
  conv => whnf
  let row : List Int := out1 ++ [m]
  refine pk_apI (xs := out1) (ys := [m]) rfl (by first | rfl | omega) (by first | (simp; done) | (simp; omega)) (by first | (simp; done) | (simp; omega)) ?_
  conv => whnf
  cases h; simp only [Sum.elim_inl, head116_1] at hc
  refine Leads.re hc [(0, 2)] rfl ?_ ?_ <;> (repeat' first | exact trivial | refine ⟨⟨_, rfl, rfl⟩, ?_⟩ | refine ⟨⟨_, _, rfl, rfl, .rowF (vI_flat _ _) id⟩, ?_⟩ | refine ⟨⟨_, _, rfl, rfl, .rowF (vS_flat _) id⟩, ?_⟩ | refine ⟨⟨_, _, rfl, rfl, .rowF (vB_flat _) id⟩, ?_⟩ | refine ⟨⟨_, _, rfl, rfl, .rowF (vT_flat (by first | exact cicmp_Message_flat | exact capi_Addr_flat | exact coctet_Reader_flat | exact cArr2_Int_flat | exact cArr4_Arr2_Int_flat | exact cruntime_errorAddressString_flat | exact cudp_Head_flat | exact cipsix_Head_flat | exact cipfour_Head_flat | exact capi_Tuple_flat | exact ctcp_Head_flat) _) id⟩, ?_⟩ | refine ⟨⟨_, _, rfl, rfl, .tyF (vI_flat _ _)⟩, ?_⟩ | refine ⟨⟨_, _, rfl, rfl, .ty rfl⟩, ?_⟩ | refine ⟨⟨_, _, rfl, rfl, .cells rfl⟩, ?_⟩ | refine ⟨⟨_, _, rfl, rfl, .row rfl id⟩, ?_⟩ | refine ⟨⟨_, _, rfl, rfl, .cr rfl⟩, ?_⟩ | refine ⟨⟨_, _, rfl, rfl, .rc rfl⟩, ?_⟩ | refine ⟨⟨_, _, rfl, rfl, .marks⟩, ?_⟩ | refine ⟨⟨_, _, rfl, rfl, .siter _ _⟩, ?_⟩ | refine ⟨⟨_, _, rfl, rfl, .loop rfl rfl rfl rfl (by repeat' first | exact trivial | refine ⟨rfl, ?_⟩) rfl rfl rfl rfl⟩, ?_⟩)
theorem leads116 (R02_Must : (List UInt8) → Int → Int → Option Int) (hS : SumsOK Try.prog (aget (sums116 R02_Must))) (s : List UInt8) (res : List Int) (h : R03_WordsF R02_Must s = some res) :
    Leads Try.prog 116 0 ⟨⟨116, 24, [(0, .string ⟨⟨s⟩⟩)], [.code k116_23], [], false, none⟩, [], [], 0⟩ (fun v H _ => Res 0 (rx116 res) v H) := by
  unfold R03_WordsF at h
  refine ev_ok tab_ok hS true 3000 ?_
  conv => whnf
  refine br.h2 h ?_ ?_ ?_
  · rfl
  · clear h; intro hb h; conv => whnf
    have hl := loop116_1 R02_Must hS res _ _ _ h rfl; simp only [head116_1] at hl
    refine Leads.nilT 3 1 ?_
    refine Leads.re hl [(0, 0)] rfl ?_ ?_ <;> (repeat' first | exact trivial | refine ⟨⟨_, rfl, rfl⟩, ?_⟩ | refine ⟨⟨_, _, rfl, rfl, .rowF (vI_flat _ _) id⟩, ?_⟩ | refine ⟨⟨_, _, rfl, rfl, .rowF (vS_flat _) id⟩, ?_⟩ | refine ⟨⟨_, _, rfl, rfl, .rowF (vB_flat _) id⟩, ?_⟩ | refine ⟨⟨_, _, rfl, rfl, .rowF (vT_flat (by first | exact cicmp_Message_flat | exact capi_Addr_flat | exact coctet_Reader_flat | exact cArr2_Int_flat | exact cArr4_Arr2_Int_flat | exact cruntime_errorAddressString_flat | exact cudp_Head_flat | exact cipsix_Head_flat | exact cipfour_Head_flat | exact capi_Tuple_flat | exact ctcp_Head_flat) _) id⟩, ?_⟩ | refine ⟨⟨_, _, rfl, rfl, .tyF (vI_flat _ _)⟩, ?_⟩ | refine ⟨⟨_, _, rfl, rfl, .ty rfl⟩, ?_⟩ | refine ⟨⟨_, _, rfl, rfl, .cells rfl⟩, ?_⟩ | refine ⟨⟨_, _, rfl, rfl, .row rfl id⟩, ?_⟩ | refine ⟨⟨_, _, rfl, rfl, .cr rfl⟩, ?_⟩ | refine ⟨⟨_, _, rfl, rfl, .rc rfl⟩, ?_⟩ | refine ⟨⟨_, _, rfl, rfl, .marks⟩, ?_⟩ | refine ⟨⟨_, _, rfl, rfl, .siter _ _⟩, ?_⟩ | refine ⟨⟨_, _, rfl, rfl, .loop rfl rfl rfl rfl (by repeat' first | exact trivial | refine ⟨rfl, ?_⟩) rfl rfl rfl rfl⟩, ?_⟩)
  clear h; intro hb h; conv => whnf
  replace h := oreq.elim h; obtain ⟨hb, h⟩ := h
  first | (refine req.intro hb ?_; conv => whnf) | skip
  have hl := loop116_1 R02_Must hS res _ _ _ h rfl; simp only [head116_1] at hl
  refine Leads.nilT 3 1 ?_
  refine Leads.re hl [(0, 0)] rfl ?_ ?_ <;> (repeat' first | exact trivial | refine ⟨⟨_, rfl, rfl⟩, ?_⟩ | refine ⟨⟨_, _, rfl, rfl, .rowF (vI_flat _ _) id⟩, ?_⟩ | refine ⟨⟨_, _, rfl, rfl, .rowF (vS_flat _) id⟩, ?_⟩ | refine ⟨⟨_, _, rfl, rfl, .rowF (vB_flat _) id⟩, ?_⟩ | refine ⟨⟨_, _, rfl, rfl, .rowF (vT_flat (by first | exact cicmp_Message_flat | exact capi_Addr_flat | exact coctet_Reader_flat | exact cArr2_Int_flat | exact cArr4_Arr2_Int_flat | exact cruntime_errorAddressString_flat | exact cudp_Head_flat | exact cipsix_Head_flat | exact cipfour_Head_flat | exact capi_Tuple_flat | exact ctcp_Head_flat) _) id⟩, ?_⟩ | refine ⟨⟨_, _, rfl, rfl, .tyF (vI_flat _ _)⟩, ?_⟩ | refine ⟨⟨_, _, rfl, rfl, .ty rfl⟩, ?_⟩ | refine ⟨⟨_, _, rfl, rfl, .cells rfl⟩, ?_⟩ | refine ⟨⟨_, _, rfl, rfl, .row rfl id⟩, ?_⟩ | refine ⟨⟨_, _, rfl, rfl, .cr rfl⟩, ?_⟩ | refine ⟨⟨_, _, rfl, rfl, .rc rfl⟩, ?_⟩ | refine ⟨⟨_, _, rfl, rfl, .marks⟩, ?_⟩ | refine ⟨⟨_, _, rfl, rfl, .siter _ _⟩, ?_⟩ | refine ⟨⟨_, _, rfl, rfl, .loop rfl rfl rfl rfl (by repeat' first | exact trivial | refine ⟨rfl, ?_⟩) rfl rfl rfl rfl⟩, ?_⟩)
theorem ok116 (R02_Must : (List UInt8) → Int → Int → Option Int) (hS : SumsOK Try.prog (aget (sums116 R02_Must))) : SumOK Try.prog 116 (s116 (R03_WordsF R02_Must)) := by
  refine SumOK.of_leads tab_ok (fun ar os r ha hr => ?_) ⟨Try.f116, rfl, by decide, rfl⟩
  replace hr : r116 (R03_WordsF R02_Must) ar (conts os) = some r := hr
  unfold r116 at hr
  generalize hc : conts os = C at hr
  replace hr := dV.elim hr; obtain ⟨v0, l1, y0, rfl, e0, hr⟩ := hr; obtain rfl := asS_eq _ _ e0
  replace hr := dFin hr; obtain ⟨rfl, rfl, x, h, rfl⟩ := hr
  obtain rfl := kinds_nil hc
  exact ⟨_, rfl, leads116 R02_Must hS _ x h⟩
def R03_Words : (List UInt8) → Option (List Int) := R03_WordsF R02_Must
theorem lift116 : SumOK Try.prog 116 (s116 R03_Words) := ok116 R02_Must (SumsOK.of_tab ⟨lift74, trivial⟩)
def R03_SumF (R03_Add : (List Int) → Option Int) (R03_Words : (List UInt8) → Option (List Int)) (s : List UInt8) : Option Int :=
  (R03_Words s).bind fun w =>
  (R03_Add w).bind fun a =>
  some (a)
def rx75 (x : Int) : SRes := ⟨.int .i64 x, [], []⟩
def r75 (g : (List UInt8) → Option Int) : Dec := dV asS fun (y0 : List UInt8) => dEnd (ofG (g y0) rx75)
theorem r75_c {g : (List UInt8) → Option Int} {y0 : List UInt8} {x : Int} (hx : g y0 = some x) : r75 g [.string ⟨⟨y0⟩⟩] [] = some (rx75 x) := (dV_eq (asS_c)).trans (ofG_eq hx)
def s75 (g : (List UInt8) → Option Int) : Summ := ⟨[.v], r75 g⟩
theorem r75_eq {g : (List UInt8) → Option Int} {y0 : List UInt8} {x : Int} (hx : g y0 = some x) : (s75 g).run [.string ⟨⟨y0⟩⟩] [] = some (rx75 x) := r75_c hx
abbrev sums75 (R03_Add : (List Int) → Option Int) (R03_Words : (List UInt8) → Option (List Int)) : List (Nat × Summ) := [(115, s115 R03_Add), (116, s116 R03_Words)]
theorem leads75 (R03_Add : (List Int) → Option Int) (R03_Words : (List UInt8) → Option (List Int)) (hS : SumsOK Try.prog (aget (sums75 R03_Add R03_Words))) (s : List UInt8) (res : Int) (h : R03_SumF R03_Add R03_Words s = some res) :
    Leads Try.prog 75 0 ⟨⟨75, 6, [(0, .string ⟨⟨s⟩⟩)], [.code k75_3], [], false, none⟩, [], [], 0⟩ (fun v H _ => Res 0 (rx75 res) v H) := by
  unfold R03_SumF at h
  refine ev_ok tab_ok hS true 3000 ?_
  conv => whnf
  replace h := obind.elim h; obtain ⟨w, hy, h⟩ := h
  refine sumK.introF [] (sumRun_of (aqs := [.string ⟨⟨s⟩⟩]) (ws := []) (n := 1) (m := 0) (t' := 1) (ra_cons rfl rfl ra_nil) rfl (by rfl) (r116_eq hy) rfl rfl rfl rfl wb_nil (an_cons (rn_I) an_nil) rfl) ?_
  conv => whnf
  replace h := obind.elim h; obtain ⟨a, hy, h⟩ := h
  refine sumK.introF [] (sumRun_of (aqs := [.slice (some ⟨0, 0, none⟩) (w : List Int).length 1]) (ws := [.win 0 0 (w.length * 1) false]) (n := 0) (m := 0) (t' := 1) (ra_cons (by first | rfl | exact ra_allI rfl rfl (by first | rfl | omega) (by first | rfl | (simp; done)) | exact ra_slI rfl rfl (by first | rfl | omega) (by first | rfl | omega) (by first | omega | (simp at *; omega))) rfl ra_nil) rfl (by rfl) (r115_eq hy) rfl rfl rfl rfl (wb_skip rfl wb_nil) an_nil rfl) ?_
  conv => whnf
  all_goals (cases h; exact Res.z rfl rfl rfl)
theorem ok75 (R03_Add : (List Int) → Option Int) (R03_Words : (List UInt8) → Option (List Int)) (hS : SumsOK Try.prog (aget (sums75 R03_Add R03_Words))) : SumOK Try.prog 75 (s75 (R03_SumF R03_Add R03_Words)) := by
  refine SumOK.of_leads tab_ok (fun ar os r ha hr => ?_) ⟨Try.f75, rfl, by decide, rfl⟩
  replace hr : r75 (R03_SumF R03_Add R03_Words) ar (conts os) = some r := hr
  unfold r75 at hr
  generalize hc : conts os = C at hr
  replace hr := dV.elim hr; obtain ⟨v0, l1, y0, rfl, e0, hr⟩ := hr; obtain rfl := asS_eq _ _ e0
  replace hr := dFin hr; obtain ⟨rfl, rfl, x, h, rfl⟩ := hr
  obtain rfl := kinds_nil hc
  exact ⟨_, rfl, leads75 R03_Add R03_Words hS _ x h⟩
def R03_Sum : (List UInt8) → Option Int := R03_SumF R03_Add R03_Words
theorem lift75 : SumOK Try.prog 75 (s75 R03_Sum) := ok75 R03_Add R03_Words (SumsOK.of_tab ⟨lift115, lift116, trivial⟩)
def R03_OfF (R03_Sum : (List UInt8) → Option Int) (s : List UInt8) : Option Int :=
  (R03_Sum s).bind fun s1 =>
  some (wI .i64 (65535 - s1))
def rx68 (x : Int) : SRes := ⟨.int .i64 x, [], []⟩
def r68 (g : (List UInt8) → Option Int) : Dec := dV asS fun (y0 : List UInt8) => dEnd (ofG (g y0) rx68)
theorem r68_c {g : (List UInt8) → Option Int} {y0 : List UInt8} {x : Int} (hx : g y0 = some x) : r68 g [.string ⟨⟨y0⟩⟩] [] = some (rx68 x) := (dV_eq (asS_c)).trans (ofG_eq hx)
def s68 (g : (List UInt8) → Option Int) : Summ := ⟨[.v], r68 g⟩
theorem r68_eq {g : (List UInt8) → Option Int} {y0 : List UInt8} {x : Int} (hx : g y0 = some x) : (s68 g).run [.string ⟨⟨y0⟩⟩] [] = some (rx68 x) := r68_c hx
abbrev sums68 (R03_Sum : (List UInt8) → Option Int) : List (Nat × Summ) := [(75, s75 R03_Sum)]
theorem leads68 (R03_Sum : (List UInt8) → Option Int) (hS : SumsOK Try.prog (aget (sums68 R03_Sum))) (s : List UInt8) (res : Int) (h : R03_OfF R03_Sum s = some res) :
    Leads Try.prog 68 0 ⟨⟨68, 6, [(0, .string ⟨⟨s⟩⟩)], [.code k68_3], [], false, none⟩, [], [], 0⟩ (fun v H _ => Res 0 (rx68 res) v H) := by
  unfold R03_OfF at h
  refine ev_ok tab_ok hS true 3000 ?_
  conv => whnf
  replace h := obind.elim h; obtain ⟨s1, hy, h⟩ := h
  refine sumK.q rfl rfl (r75_eq hy) rfl rfl rfl ?_
  conv => whnf
  all_goals (cases h; exact Res.z rfl rfl rfl)
theorem ok68 (R03_Sum : (List UInt8) → Option Int) (hS : SumsOK Try.prog (aget (sums68 R03_Sum))) : SumOK Try.prog 68 (s68 (R03_OfF R03_Sum)) := by
  refine SumOK.of_leads tab_ok (fun ar os r ha hr => ?_) ⟨Try.f68, rfl, by decide, rfl⟩
  replace hr : r68 (R03_OfF R03_Sum) ar (conts os) = some r := hr
  unfold r68 at hr
  generalize hc : conts os = C at hr
  replace hr := dV.elim hr; obtain ⟨v0, l1, y0, rfl, e0, hr⟩ := hr; obtain rfl := asS_eq _ _ e0
  replace hr := dFin hr; obtain ⟨rfl, rfl, x, h, rfl⟩ := hr
  obtain rfl := kinds_nil hc
  exact ⟨_, rfl, leads68 R03_Sum hS _ x h⟩
def R03_Of : (List UInt8) → Option Int := R03_OfF R03_Sum
theorem lift68 : SumOK Try.prog 68 (s68 R03_Of) := ok68 R03_Sum (SumsOK.of_tab ⟨lift75, trivial⟩)
def check_OfF (check_Sum : (List UInt8) → Option Int) (s : List UInt8) : Option Int :=
  (check_Sum s).bind fun s1 =>
  some (wI .i64 (65535 - s1))
def rx64 (x : Int) : SRes := ⟨.int .i64 x, [], []⟩
def r64 (g : (List UInt8) → Option Int) : Dec := dV asS fun (y0 : List UInt8) => dEnd (ofG (g y0) rx64)
theorem r64_c {g : (List UInt8) → Option Int} {y0 : List UInt8} {x : Int} (hx : g y0 = some x) : r64 g [.string ⟨⟨y0⟩⟩] [] = some (rx64 x) := (dV_eq (asS_c)).trans (ofG_eq hx)
def s64 (g : (List UInt8) → Option Int) : Summ := ⟨[.v], r64 g⟩
theorem r64_eq {g : (List UInt8) → Option Int} {y0 : List UInt8} {x : Int} (hx : g y0 = some x) : (s64 g).run [.string ⟨⟨y0⟩⟩] [] = some (rx64 x) := r64_c hx
abbrev sums64 (check_Sum : (List UInt8) → Option Int) : List (Nat × Summ) := [(113, s113 check_Sum)]
theorem leads64 (check_Sum : (List UInt8) → Option Int) (hS : SumsOK Try.prog (aget (sums64 check_Sum))) (s : List UInt8) (res : Int) (h : check_OfF check_Sum s = some res) :
    Leads Try.prog 64 0 ⟨⟨64, 6, [(0, .string ⟨⟨s⟩⟩)], [.code k64_3], [], false, none⟩, [], [], 0⟩ (fun v H _ => Res 0 (rx64 res) v H) := by
  unfold check_OfF at h
  refine ev_ok tab_ok hS true 3000 ?_
  conv => whnf
  replace h := obind.elim h; obtain ⟨s1, hy, h⟩ := h
  refine sumK.q rfl rfl (r113_eq hy) rfl rfl rfl ?_
  conv => whnf
  all_goals (cases h; exact Res.z rfl rfl rfl)
theorem ok64 (check_Sum : (List UInt8) → Option Int) (hS : SumsOK Try.prog (aget (sums64 check_Sum))) : SumOK Try.prog 64 (s64 (check_OfF check_Sum)) := by
  refine SumOK.of_leads tab_ok (fun ar os r ha hr => ?_) ⟨Try.f64, rfl, by decide, rfl⟩
  replace hr : r64 (check_OfF check_Sum) ar (conts os) = some r := hr
  unfold r64 at hr
  generalize hc : conts os = C at hr
  replace hr := dV.elim hr; obtain ⟨v0, l1, y0, rfl, e0, hr⟩ := hr; obtain rfl := asS_eq _ _ e0
  replace hr := dFin hr; obtain ⟨rfl, rfl, x, h, rfl⟩ := hr
  obtain rfl := kinds_nil hc
  exact ⟨_, rfl, leads64 check_Sum hS _ x h⟩
def check_Of : (List UInt8) → Option Int := check_OfF check_Sum
theorem lift64 : SumOK Try.prog 64 (s64 check_Of) := ok64 check_Sum (SumsOK.of_tab ⟨lift113, trivial⟩)
def check_RightF (check_Sum : (List UInt8) → Option Int) (s : List UInt8) : Option Bool :=
  (check_Sum s).bind fun s1 =>
  some (s1 == 65535)
def rx73 (x : Bool) : SRes := ⟨.bool x, [], []⟩
def r73 (g : (List UInt8) → Option Bool) : Dec := dV asS fun (y0 : List UInt8) => dEnd (ofG (g y0) rx73)
theorem r73_c {g : (List UInt8) → Option Bool} {y0 : List UInt8} {x : Bool} (hx : g y0 = some x) : r73 g [.string ⟨⟨y0⟩⟩] [] = some (rx73 x) := (dV_eq (asS_c)).trans (ofG_eq hx)
def s73 (g : (List UInt8) → Option Bool) : Summ := ⟨[.v], r73 g⟩
theorem r73_eq {g : (List UInt8) → Option Bool} {y0 : List UInt8} {x : Bool} (hx : g y0 = some x) : (s73 g).run [.string ⟨⟨y0⟩⟩] [] = some (rx73 x) := r73_c hx
abbrev sums73 (check_Sum : (List UInt8) → Option Int) : List (Nat × Summ) := [(113, s113 check_Sum)]
theorem leads73 (check_Sum : (List UInt8) → Option Int) (hS : SumsOK Try.prog (aget (sums73 check_Sum))) (s : List UInt8) (res : Bool) (h : check_RightF check_Sum s = some res) :
    Leads Try.prog 73 0 ⟨⟨73, 6, [(0, .string ⟨⟨s⟩⟩)], [.code k73_3], [], false, none⟩, [], [], 0⟩ (fun v H _ => Res 0 (rx73 res) v H) := by
  unfold check_RightF at h
  refine ev_ok tab_ok hS true 3000 ?_
  conv => whnf
  replace h := obind.elim h; obtain ⟨s1, hy, h⟩ := h
  refine sumK.q rfl rfl (r113_eq hy) rfl rfl rfl ?_
  conv => whnf
  all_goals (cases h; exact Res.z rfl rfl rfl)
theorem ok73 (check_Sum : (List UInt8) → Option Int) (hS : SumsOK Try.prog (aget (sums73 check_Sum))) : SumOK Try.prog 73 (s73 (check_RightF check_Sum)) := by
  refine SumOK.of_leads tab_ok (fun ar os r ha hr => ?_) ⟨Try.f73, rfl, by decide, rfl⟩
  replace hr : r73 (check_RightF check_Sum) ar (conts os) = some r := hr
  unfold r73 at hr
  generalize hc : conts os = C at hr
  replace hr := dV.elim hr; obtain ⟨v0, l1, y0, rfl, e0, hr⟩ := hr; obtain rfl := asS_eq _ _ e0
  replace hr := dFin hr; obtain ⟨rfl, rfl, x, h, rfl⟩ := hr
  obtain rfl := kinds_nil hc
  exact ⟨_, rfl, leads73 check_Sum hS _ x h⟩
def check_Right : (List UInt8) → Option Bool := check_RightF check_Sum
theorem lift73 : SumOK Try.prog 73 (s73 check_Right) := ok73 check_Sum (SumsOK.of_tab ⟨lift113, trivial⟩)
def addr_RightF (a : api_Addr) : Option Bool :=
  cond (a.V6)
    (
    some (true))
    (
    cond (a.Hi == 0)
      (
      some (decide (a.Lo < 4294967296)))
      (
      some (false)))
def rx85 (x : Bool) : SRes := ⟨.bool x, [], []⟩
def r85 (g : api_Addr → Option Bool) : Dec := dV uvapi_Addr fun (y0 : api_Addr) => dEnd (ofG (g y0) rx85)
theorem r85_c {g : api_Addr → Option Bool} {y0 : api_Addr} {x : Bool} (hx : g y0 = some x) : r85 g [.agg ⟨[.bool y0.V6, .int .u64 y0.Hi, .int .u64 y0.Lo]⟩] [] = some (rx85 x) := (dV_eq (uvapi_Addr_c _)).trans (ofG_eq hx)
def s85 (g : api_Addr → Option Bool) : Summ := ⟨[.v], r85 g⟩
theorem r85_eq {g : api_Addr → Option Bool} {y0 : api_Addr} {x : Bool} (hx : g y0 = some x) : (s85 g).run [.agg ⟨[.bool y0.V6, .int .u64 y0.Hi, .int .u64 y0.Lo]⟩] [] = some (rx85 x) := r85_c hx
abbrev sums85 : List (Nat × Summ) := []
theorem leads85 (hS : SumsOK Try.prog (aget (sums85))) (a : api_Addr) (res : Bool) (h : addr_RightF a = some res) :
    Leads Try.prog 85 0 ⟨⟨85, 15, [(0, .agg ⟨[.bool a.V6, .int .u64 a.Hi, .int .u64 a.Lo]⟩)], [.code k85_3], [], false, none⟩, [], [], 0⟩ (fun v H _ => Res 0 (rx85 res) v H) := by
  unfold addr_RightF at h
  refine ev_ok tab_ok hS true 3000 ?_
  conv => whnf
  refine br.h h ?_ ?_ ?_
  · rfl
  · clear h; intro hb h; conv => whnf
    all_goals (cases h; exact Res.z rfl rfl rfl)
  clear h; intro hb h; conv => whnf
  refine br.h h ?_ ?_ ?_
  · rfl
  · clear h; intro hb h; conv => whnf
    all_goals (cases h; exact Res.z rfl rfl rfl)
  clear h; intro hb h; conv => whnf
  all_goals (cases h; exact Res.z rfl rfl rfl)
theorem ok85 (hS : SumsOK Try.prog (aget (sums85))) : SumOK Try.prog 85 (s85 (addr_RightF)) := by
  refine SumOK.of_leads tab_ok (fun ar os r ha hr => ?_) ⟨Try.f85, rfl, by decide, rfl⟩
  replace hr : r85 (addr_RightF) ar (conts os) = some r := hr
  unfold r85 at hr
  generalize hc : conts os = C at hr
  replace hr := dV.elim hr; obtain ⟨v0, l1, y0, rfl, e0, hr⟩ := hr; obtain rfl := uvapi_Addr_eq _ _ e0
  replace hr := dFin hr; obtain ⟨rfl, rfl, x, h, rfl⟩ := hr
  obtain rfl := kinds_nil hc
  exact ⟨_, rfl, leads85 hS _ x h⟩
def addr_Right : api_Addr → Option Bool := addr_RightF
theorem lift85 : SumOK Try.prog 85 (s85 addr_Right) := ok85 (SumsOK.of_tab trivial)
def addr_PutF (addr_Right : api_Addr → Option Bool) (octet_Put : Int → Int → Option (List UInt8)) (a : api_Addr) : Option (List UInt8) :=
  (addr_Right a).bind fun xr =>
  cond (!xr)
    (
    some ([]))
    (
    cond (a.V6)
      (
      (octet_Put a.Hi 8).bind fun p =>
      (octet_Put a.Lo 8).bind fun p1 =>
      oreq (decide (p.length + p1.length < 2 ^ 63)) <|
      some (p ++ p1))
      (
      (octet_Put a.Lo 4).bind fun p2 =>
      some (p2)))
def rx78 (x : List UInt8) : SRes := ⟨.string ⟨⟨x⟩⟩, [], []⟩
def r78 (g : api_Addr → Option (List UInt8)) : Dec := dV uvapi_Addr fun (y0 : api_Addr) => dEnd (ofG (g y0) rx78)
theorem r78_c {g : api_Addr → Option (List UInt8)} {y0 : api_Addr} {x : List UInt8} (hx : g y0 = some x) : r78 g [.agg ⟨[.bool y0.V6, .int .u64 y0.Hi, .int .u64 y0.Lo]⟩] [] = some (rx78 x) := (dV_eq (uvapi_Addr_c _)).trans (ofG_eq hx)
def s78 (g : api_Addr → Option (List UInt8)) : Summ := ⟨[.v], r78 g⟩
theorem r78_eq {g : api_Addr → Option (List UInt8)} {y0 : api_Addr} {x : List UInt8} (hx : g y0 = some x) : (s78 g).run [.agg ⟨[.bool y0.V6, .int .u64 y0.Hi, .int .u64 y0.Lo]⟩] [] = some (rx78 x) := r78_c hx
abbrev sums78 (addr_Right : api_Addr → Option Bool) (octet_Put : Int → Int → Option (List UInt8)) : List (Nat × Summ) := [(85, s85 addr_Right), (62, s62 octet_Put)]
theorem leads78 (addr_Right : api_Addr → Option Bool) (octet_Put : Int → Int → Option (List UInt8)) (hS : SumsOK Try.prog (aget (sums78 addr_Right octet_Put))) (a : api_Addr) (res : List UInt8) (h : addr_PutF addr_Right octet_Put a = some res) :
    Leads Try.prog 78 0 ⟨⟨78, 20, [(0, .agg ⟨[.bool a.V6, .int .u64 a.Hi, .int .u64 a.Lo]⟩)], [.code k78_15], [], false, none⟩, [], [], 0⟩ (fun v H _ => Res 0 (rx78 res) v H) := by
  unfold addr_PutF at h
  refine ev_ok tab_ok hS true 3000 ?_
  conv => whnf
  replace h := obind.elim h; obtain ⟨xr, hy, h⟩ := h
  refine sumK.q rfl rfl (r85_eq hy) rfl rfl rfl ?_
  conv => whnf
  refine br.h h ?_ ?_ ?_
  · rfl
  · clear h; intro hb h; conv => whnf
    all_goals (cases h; exact Res.z rfl rfl rfl)
  clear h; intro hb h; conv => whnf
  refine br.h2 h ?_ ?_ ?_
  · rfl
  · clear h; intro hb h; conv => whnf
    replace h := obind.elim h; obtain ⟨p2, hy, h⟩ := h
    refine sumK.q rfl rfl (r62_eq hy) rfl rfl rfl ?_
    conv => whnf
    all_goals (cases h; exact Res.z rfl rfl rfl)
  clear h; intro hb h; conv => whnf
  replace h := obind.elim h; obtain ⟨p, hy, h⟩ := h
  refine sumK.q rfl rfl (r62_eq hy) rfl rfl rfl ?_
  conv => whnf
  replace h := obind.elim h; obtain ⟨p1, hy, h⟩ := h
  refine sumK.q rfl rfl (r62_eq hy) rfl rfl rfl ?_
  conv => whnf
  replace h := oreq.elim h; obtain ⟨hb, h⟩ := h
  first | (refine req.intro hb ?_; conv => whnf) | skip
  all_goals (cases h; exact Res.z rfl rfl rfl)
theorem ok78 (addr_Right : api_Addr → Option Bool) (octet_Put : Int → Int → Option (List UInt8)) (hS : SumsOK Try.prog (aget (sums78 addr_Right octet_Put))) : SumOK Try.prog 78 (s78 (addr_PutF addr_Right octet_Put)) := by
  refine SumOK.of_leads tab_ok (fun ar os r ha hr => ?_) ⟨Try.f78, rfl, by decide, rfl⟩
  replace hr : r78 (addr_PutF addr_Right octet_Put) ar (conts os) = some r := hr
  unfold r78 at hr
  generalize hc : conts os = C at hr
  replace hr := dV.elim hr; obtain ⟨v0, l1, y0, rfl, e0, hr⟩ := hr; obtain rfl := uvapi_Addr_eq _ _ e0
  replace hr := dFin hr; obtain ⟨rfl, rfl, x, h, rfl⟩ := hr
  obtain rfl := kinds_nil hc
  exact ⟨_, rfl, leads78 addr_Right octet_Put hS _ x h⟩
def addr_Put : api_Addr → Option (List UInt8) := addr_PutF addr_Right octet_Put
theorem lift78 : SumOK Try.prog 78 (s78 addr_Put) := ok78 addr_Right octet_Put (SumsOK.of_tab ⟨lift85, lift62, trivial⟩)
def R04_RightF (a : api_Addr) : Option Bool :=
  cond (a.V6)
    (
    some (true))
    (
    cond (a.Hi == 0)
      (
      some (decide (a.Lo < 4294967296)))
      (
      some (false)))
def rx86 (x : Bool) : SRes := ⟨.bool x, [], []⟩
def r86 (g : api_Addr → Option Bool) : Dec := dV uvapi_Addr fun (y0 : api_Addr) => dEnd (ofG (g y0) rx86)
theorem r86_c {g : api_Addr → Option Bool} {y0 : api_Addr} {x : Bool} (hx : g y0 = some x) : r86 g [.agg ⟨[.bool y0.V6, .int .u64 y0.Hi, .int .u64 y0.Lo]⟩] [] = some (rx86 x) := (dV_eq (uvapi_Addr_c _)).trans (ofG_eq hx)
def s86 (g : api_Addr → Option Bool) : Summ := ⟨[.v], r86 g⟩
theorem r86_eq {g : api_Addr → Option Bool} {y0 : api_Addr} {x : Bool} (hx : g y0 = some x) : (s86 g).run [.agg ⟨[.bool y0.V6, .int .u64 y0.Hi, .int .u64 y0.Lo]⟩] [] = some (rx86 x) := r86_c hx
abbrev sums86 : List (Nat × Summ) := []
theorem leads86 (hS : SumsOK Try.prog (aget (sums86))) (a : api_Addr) (res : Bool) (h : R04_RightF a = some res) :
    Leads Try.prog 86 0 ⟨⟨86, 15, [(0, .agg ⟨[.bool a.V6, .int .u64 a.Hi, .int .u64 a.Lo]⟩)], [.code k86_3], [], false, none⟩, [], [], 0⟩ (fun v H _ => Res 0 (rx86 res) v H) := by
  unfold R04_RightF at h
  refine ev_ok tab_ok hS true 3000 ?_
  conv => whnf
  refine br.h h ?_ ?_ ?_
  · rfl
  · clear h; intro hb h; conv => whnf
    all_goals (cases h; exact Res.z rfl rfl rfl)
  clear h; intro hb h; conv => whnf
  refine br.h h ?_ ?_ ?_
  · rfl
  · clear h; intro hb h; conv => whnf
    all_goals (cases h; exact Res.z rfl rfl rfl)
  clear h; intro hb h; conv => whnf
  all_goals (cases h; exact Res.z rfl rfl rfl)
theorem ok86 (hS : SumsOK Try.prog (aget (sums86))) : SumOK Try.prog 86 (s86 (R04_RightF)) := by
  refine SumOK.of_leads tab_ok (fun ar os r ha hr => ?_) ⟨Try.f86, rfl, by decide, rfl⟩
  replace hr : r86 (R04_RightF) ar (conts os) = some r := hr
  unfold r86 at hr
  generalize hc : conts os = C at hr
  replace hr := dV.elim hr; obtain ⟨v0, l1, y0, rfl, e0, hr⟩ := hr; obtain rfl := uvapi_Addr_eq _ _ e0
  replace hr := dFin hr; obtain ⟨rfl, rfl, x, h, rfl⟩ := hr
  obtain rfl := kinds_nil hc
  exact ⟨_, rfl, leads86 hS _ x h⟩
def R04_Right : api_Addr → Option Bool := R04_RightF
theorem lift86 : SumOK Try.prog 86 (s86 R04_Right) := ok86 (SumsOK.of_tab trivial)
def R04_PutF (R02_Put : Int → Int → Option (List UInt8)) (R04_Right : api_Addr → Option Bool) (a : api_Addr) : Option (List UInt8) :=
  (R04_Right a).bind fun xr =>
  cond (!xr)
    (
    some ([]))
    (
    cond (a.V6)
      (
      (R02_Put a.Hi 8).bind fun p =>
      (R02_Put a.Lo 8).bind fun p1 =>
      oreq (decide (p.length + p1.length < 2 ^ 63)) <|
      some (p ++ p1))
      (
      (R02_Put a.Lo 4).bind fun p2 =>
      some (p2)))
def rx81 (x : List UInt8) : SRes := ⟨.string ⟨⟨x⟩⟩, [], []⟩
def r81 (g : api_Addr → Option (List UInt8)) : Dec := dV uvapi_Addr fun (y0 : api_Addr) => dEnd (ofG (g y0) rx81)
theorem r81_c {g : api_Addr → Option (List UInt8)} {y0 : api_Addr} {x : List UInt8} (hx : g y0 = some x) : r81 g [.agg ⟨[.bool y0.V6, .int .u64 y0.Hi, .int .u64 y0.Lo]⟩] [] = some (rx81 x) := (dV_eq (uvapi_Addr_c _)).trans (ofG_eq hx)
def s81 (g : api_Addr → Option (List UInt8)) : Summ := ⟨[.v], r81 g⟩
theorem r81_eq {g : api_Addr → Option (List UInt8)} {y0 : api_Addr} {x : List UInt8} (hx : g y0 = some x) : (s81 g).run [.agg ⟨[.bool y0.V6, .int .u64 y0.Hi, .int .u64 y0.Lo]⟩] [] = some (rx81 x) := r81_c hx
abbrev sums81 (R02_Put : Int → Int → Option (List UInt8)) (R04_Right : api_Addr → Option Bool) : List (Nat × Summ) := [(67, s67 R02_Put), (86, s86 R04_Right)]
theorem leads81 (R02_Put : Int → Int → Option (List UInt8)) (R04_Right : api_Addr → Option Bool) (hS : SumsOK Try.prog (aget (sums81 R02_Put R04_Right))) (a : api_Addr) (res : List UInt8) (h : R04_PutF R02_Put R04_Right a = some res) :
    Leads Try.prog 81 0 ⟨⟨81, 18, [(0, .agg ⟨[.bool a.V6, .int .u64 a.Hi, .int .u64 a.Lo]⟩)], [.code k81_15], [], false, none⟩, [], [], 0⟩ (fun v H _ => Res 0 (rx81 res) v H) := by
  unfold R04_PutF at h
  refine ev_ok tab_ok hS true 3000 ?_
  conv => whnf
  replace h := obind.elim h; obtain ⟨xr, hy, h⟩ := h
  refine sumK.q rfl rfl (r86_eq hy) rfl rfl rfl ?_
  conv => whnf
  refine br.h h ?_ ?_ ?_
  · rfl
  · clear h; intro hb h; conv => whnf
    all_goals (cases h; exact Res.z rfl rfl rfl)
  clear h; intro hb h; conv => whnf
  refine br.h2 h ?_ ?_ ?_
  · rfl
  · clear h; intro hb h; conv => whnf
    replace h := obind.elim h; obtain ⟨p2, hy, h⟩ := h
    refine sumK.q rfl rfl (r67_eq hy) rfl rfl rfl ?_
    conv => whnf
    all_goals (cases h; exact Res.z rfl rfl rfl)
  clear h; intro hb h; conv => whnf
  replace h := obind.elim h; obtain ⟨p, hy, h⟩ := h
  refine sumK.q rfl rfl (r67_eq hy) rfl rfl rfl ?_
  conv => whnf
  replace h := obind.elim h; obtain ⟨p1, hy, h⟩ := h
  refine sumK.q rfl rfl (r67_eq hy) rfl rfl rfl ?_
  conv => whnf
  replace h := oreq.elim h; obtain ⟨hb, h⟩ := h
  first | (refine req.intro hb ?_; conv => whnf) | skip
  all_goals (cases h; exact Res.z rfl rfl rfl)
theorem ok81 (R02_Put : Int → Int → Option (List UInt8)) (R04_Right : api_Addr → Option Bool) (hS : SumsOK Try.prog (aget (sums81 R02_Put R04_Right))) : SumOK Try.prog 81 (s81 (R04_PutF R02_Put R04_Right)) := by
  refine SumOK.of_leads tab_ok (fun ar os r ha hr => ?_) ⟨Try.f81, rfl, by decide, rfl⟩
  replace hr : r81 (R04_PutF R02_Put R04_Right) ar (conts os) = some r := hr
  unfold r81 at hr
  generalize hc : conts os = C at hr
  replace hr := dV.elim hr; obtain ⟨v0, l1, y0, rfl, e0, hr⟩ := hr; obtain rfl := uvapi_Addr_eq _ _ e0
  replace hr := dFin hr; obtain ⟨rfl, rfl, x, h, rfl⟩ := hr
  obtain rfl := kinds_nil hc
  exact ⟨_, rfl, leads81 R02_Put R04_Right hS _ x h⟩
def R04_Put : api_Addr → Option (List UInt8) := R04_PutF R02_Put R04_Right
theorem lift81 : SumOK Try.prog 81 (s81 R04_Put) := ok81 R02_Put R04_Right (SumsOK.of_tab ⟨lift67, lift86, trivial⟩)
def ipfour_row_s1 (octet_Put : Int → Int → Option (List UInt8)) (l : List Int) (i : Int) (c : List Int) : Option (Sum (Int × (List Int)) (List UInt8)) :=
  let t := decide ((wI .i64 (i + 1)) < (l.length : Int))
  cond (t)
    (
    oreq (decide ((0 : Int) ≤ i ∧ i < (l.length : Int))) <|
    (l[i.toNat]?).bind fun (e2 : Int) =>
    oreq (decide ((0 : Int) ≤ (wI .i64 (i + 1)) ∧ (wI .i64 (i + 1)) < (l.length : Int))) <|
    (l[(wI .i64 (i + 1)).toNat]?).bind fun (e3 : Int) =>
    (octet_Put (wI .u64 e2) e3).bind fun p1 =>
    oreq (decide ((c.length + p1.length) * 1 ≤ 2 ^ 47)) <|
    let row := c ++ (bI p1)
    some (.inl (wI .i64 (i + 2), row)))
    (
    oreq (decide (c.length < 2 ^ 63)) <|
    some (.inr (iB c)))
def ipfour_rowF (octet_Put : Int → Int → Option (List UInt8)) (l : List Int) : Option (List UInt8) :=
  cond (decide (1 < (l.length : Int)))
    (
    oreq (decide ((0 : Int) ≤ (0 : Int) ∧ (0 : Int) < (l.length : Int))) <|
    (l[0]?).bind fun (e : Int) =>
    oreq (decide ((0 : Int) ≤ (1 : Int) ∧ (1 : Int) < (l.length : Int))) <|
    (l[1]?).bind fun (e1 : Int) =>
    (octet_Put (wI .u64 e) e1).bind fun p =>
    oreq (decide (p.length * 1 ≤ 2 ^ 47)) <|
    iter (fun st => ipfour_row_s1 octet_Put l st.1 st.2) FUEL (2, bI p))
    (
    some ([]))
def rx77 (x : List UInt8) : SRes := ⟨.string ⟨⟨x⟩⟩, [], [none]⟩
def r77 (g : (List Int) → Option (List UInt8)) : Dec := dSl 0 1 (unL (asI .i64)) fun (y0 : List Int) => dEnd (ofG (g y0) rx77)
theorem r77_c {g : (List Int) → Option (List UInt8)} {y0 : List Int} {x : List UInt8} (hx : g y0 = some x) : r77 g [.slice (some ⟨0, 0, none⟩) y0.length 1] [some (vI .i64 y0)] = some (rx77 x) := (dSl_eq (unI_vI _ _)).trans (ofG_eq hx)
def s77 (g : (List Int) → Option (List UInt8)) : Summ := ⟨[.sl 1], r77 g⟩
theorem r77_eq {g : (List Int) → Option (List UInt8)} {y0 : List Int} {x : List UInt8} (hx : g y0 = some x) : (s77 g).run [.slice (some ⟨0, 0, none⟩) y0.length 1] [some (vI .i64 y0)] = some (rx77 x) := r77_c hx
abbrev sums77 (octet_Put : Int → Int → Option (List UInt8)) : List (Nat × Summ) := [(62, s62 octet_Put)]
def head77_1 (l : List Int) (i : Int) (c : List Int) : VM :=
  ⟨⟨77, 25, [(0, .slice (some ⟨0, 0, none⟩) l.length 1), (3, .pointer (some ⟨1, 0, none⟩)), (4, .int .i64 i)], [.code k77_10, .inLoop k77_10, .inBlock 0, .code k77_15], [], false, none⟩, [], [(0, .row false (vI .i64 l)), (1, .ty 114 [.pointer (some ⟨1, 0, none⟩), .func (.method "") ⟨[.slice (some ⟨12, 0, none⟩) c.length 1]⟩ ⟨[]⟩]), (12, .ty 5 (vI .u8 c))], 13⟩
theorem loop77_1 (octet_Put : Int → Int → Option (List UInt8)) (hS : SumsOK Try.prog (aget (sums77 octet_Put))) (l : List Int) (res : List UInt8) : ∀ fuel (st : Int × (List Int)) (o : List UInt8), iter (fun st => ipfour_row_s1 octet_Put l st.1 st.2) fuel st = some o → (o = res) →
    Leads Try.prog 77 1 (head77_1 l st.1 st.2) (fun v H _ => Res 1 (rx77 res) v H) := by
  intro fuel st o h hc
  refine iter_leads (head := fun st => head77_1 l st.1 st.2) (C := fun o => (o = res)) ?_ fuel st o h hc
  clear h hc o st fuel
  intro st o h hc
  obtain ⟨i, c⟩ := st
  replace h : ipfour_row_s1 octet_Put l i c = some o := h
  show Leads Try.prog 77 1 (head77_1 l i c) (fun v H _ => Res 1 (rx77 res) v H)
  unfold ipfour_row_s1 at h
  refine ev_ok tab_ok hS true 3000 ?_
  conv => whnf
  let t : Bool := decide ((wI .i64 (i + 1)) < (l.length : Int))
  refine br.h2 h ?_ ?_ ?_
  · rfl
  · clear h; intro hb h; conv => whnf
    replace h := oreq.elim h; obtain ⟨hb, h⟩ := h
    refine req.intro (us_req rfl (by first | rfl | (simp; done)) (by first | rfl | omega | (simp; done) | (simp; omega) | (simp at *; omega)) (of_decide_eq_true hb)) ?_
    conv => whnf
    refine pk_us ?_
    conv => whnf
    all_goals (cases h; cases hc)
    all_goals exact Res.of [] rfl nw_0 (by decide) js_0 (wr_n wr_0)
  clear h; intro hb h; conv => whnf
  replace h := oreq.elim h; obtain ⟨hb, h⟩ := h
  first | (refine req.intro hb ?_; conv => whnf) | skip
  replace h := obind.elim h; obtain ⟨e2, hy, h⟩ := h
  refine rd.I hy (by first | rfl | (rw [Nat.zero_add, Nat.mul_one]; done) | omega) ?_
  conv => whnf
  replace h := oreq.elim h; obtain ⟨hb, h⟩ := h
  first | (refine req.intro hb ?_; conv => whnf) | skip
  replace h := obind.elim h; obtain ⟨e3, hy, h⟩ := h
  refine rd.I hy (by first | rfl | (rw [Nat.zero_add, Nat.mul_one]; done) | omega) ?_
  conv => whnf
  replace h := obind.elim h; obtain ⟨p1, hy, h⟩ := h
  refine sumK.q rfl rfl (r62_eq hy) rfl rfl rfl ?_
  conv => whnf
  replace h := oreq.elim h; obtain ⟨hb, h⟩ := h
  refine req.intro (apb_req (of_decide_eq_true hb) (by first | rfl | omega | (simp; done) | (simp; omega) | (simp at *; omega)) rfl rfl (by first | rfl | omega | (simp; done) | (simp; omega) | (simp at *; omega)) (by first | rfl | exact vI_one _ _ | exact vS_one _ | exact vB_one _ | exact vT_one (by first | exact cicmp_Message_one | exact capi_Addr_one | exact coctet_Reader_one | exact cArr2_Int_one | exact cArr4_Arr2_Int_one | exact cruntime_errorAddressString_one | exact cudp_Head_one | exact cipsix_Head_one | exact cipfour_Head_one | exact capi_Tuple_one | exact ctcp_Head_one) _ | (rw [ofBytes_vI]; exact vI_one _ _) | simp [vI_one, vS_one, vB_one, vI_drop, vI_take, vS_drop, vS_take]) rfl) ?_
  conv => whnf
  let row : List Int := c ++ (bI p1)
  refine pk_apW (xs := c) (ys := bI p1) (ofBytes_vI _) (by first | (simp; done) | (simp; omega)) (by first | (simp; done) | (simp; omega)) ?_
  conv => whnf
  cases h; simp only [Sum.elim_inl, head77_1] at hc
  refine Leads.re hc [(0, 0), (1, 1), (12, 23)] rfl ?_ ?_ <;> (repeat' first | exact trivial | refine ⟨⟨_, rfl, rfl⟩, ?_⟩ | refine ⟨⟨_, _, rfl, rfl, .rowF (vI_flat _ _) id⟩, ?_⟩ | refine ⟨⟨_, _, rfl, rfl, .rowF (vS_flat _) id⟩, ?_⟩ | refine ⟨⟨_, _, rfl, rfl, .rowF (vB_flat _) id⟩, ?_⟩ | refine ⟨⟨_, _, rfl, rfl, .rowF (vT_flat (by first | exact cicmp_Message_flat | exact capi_Addr_flat | exact coctet_Reader_flat | exact cArr2_Int_flat | exact cArr4_Arr2_Int_flat | exact cruntime_errorAddressString_flat | exact cudp_Head_flat | exact cipsix_Head_flat | exact cipfour_Head_flat | exact capi_Tuple_flat | exact ctcp_Head_flat) _) id⟩, ?_⟩ | refine ⟨⟨_, _, rfl, rfl, .tyF (vI_flat _ _)⟩, ?_⟩ | refine ⟨⟨_, _, rfl, rfl, .ty rfl⟩, ?_⟩ | refine ⟨⟨_, _, rfl, rfl, .cells rfl⟩, ?_⟩ | refine ⟨⟨_, _, rfl, rfl, .row rfl id⟩, ?_⟩ | refine ⟨⟨_, _, rfl, rfl, .cr rfl⟩, ?_⟩ | refine ⟨⟨_, _, rfl, rfl, .rc rfl⟩, ?_⟩ | refine ⟨⟨_, _, rfl, rfl, .marks⟩, ?_⟩ | refine ⟨⟨_, _, rfl, rfl, .siter _ _⟩, ?_⟩ | refine ⟨⟨_, _, rfl, rfl, .loop rfl rfl rfl rfl (by repeat' first | exact trivial | refine ⟨rfl, ?_⟩) rfl rfl rfl rfl⟩, ?_⟩)
theorem leads77 (octet_Put : Int → Int → Option (List UInt8)) (hS : SumsOK Try.prog (aget (sums77 octet_Put))) (l : List Int) (res : List UInt8) (h : ipfour_rowF octet_Put l = some res) :
    Leads Try.prog 77 1 ⟨⟨77, 25, [(0, .slice (some ⟨0, 0, none⟩) l.length 1)], [.code k77_18], [], false, none⟩, [], [(0, .row false (vI .i64 l))], 1⟩ (fun v H _ => Res 1 (rx77 res) v H) := by
  unfold ipfour_rowF at h
  refine ev_ok tab_ok hS true 3000 ?_
  conv => whnf
  refine ev_ok tab_ok hS true 3000 ?_
  conv => whnf
  refine br.h2 h ?_ ?_ ?_
  · rfl
  · clear h; intro hb h; conv => whnf
    all_goals (cases h)
    all_goals exact Res.of [] rfl nw_0 (by decide) js_0 (wr_n wr_0)
  clear h; intro hb h; conv => whnf
  replace h := oreq.elim h; obtain ⟨hb, h⟩ := h
  first | (refine req.intro hb ?_; conv => whnf) | skip
  replace h := obind.elim h; obtain ⟨e, hy, h⟩ := h
  refine rd.I hy (by first | rfl | (rw [Nat.zero_add, Nat.mul_one]; done) | omega) ?_
  conv => whnf
  replace h := oreq.elim h; obtain ⟨hb, h⟩ := h
  first | (refine req.intro hb ?_; conv => whnf) | skip
  replace h := obind.elim h; obtain ⟨e1, hy, h⟩ := h
  refine rd.I hy (by first | rfl | (rw [Nat.zero_add, Nat.mul_one]; done) | omega) ?_
  conv => whnf
  replace h := obind.elim h; obtain ⟨p, hy, h⟩ := h
  refine sumK.q rfl rfl (r62_eq hy) rfl rfl rfl ?_
  conv => whnf
  replace h := oreq.elim h; obtain ⟨hb, h⟩ := h
  refine req.intro (ap0b_req (of_decide_eq_true hb) (by first | rfl | omega | (simp; done) | (simp; omega) | (simp at *; omega)) rfl rfl) ?_
  conv => whnf
  refine pk_ap0I (ys := bI p) (ofBytes_vI _) (by first | rfl | (simp; done) | (simp; omega)) ?_
  conv => whnf
  have hl := loop77_1 octet_Put hS _ res _ _ _ h rfl; simp only [head77_1] at hl
  refine Leads.re hl [(0, 0), (1, 1), (12, 12)] rfl ?_ ?_ <;> (repeat' first | exact trivial | refine ⟨⟨_, rfl, rfl⟩, ?_⟩ | refine ⟨⟨_, _, rfl, rfl, .rowF (vI_flat _ _) id⟩, ?_⟩ | refine ⟨⟨_, _, rfl, rfl, .rowF (vS_flat _) id⟩, ?_⟩ | refine ⟨⟨_, _, rfl, rfl, .rowF (vB_flat _) id⟩, ?_⟩ | refine ⟨⟨_, _, rfl, rfl, .rowF (vT_flat (by first | exact cicmp_Message_flat | exact capi_Addr_flat | exact coctet_Reader_flat | exact cArr2_Int_flat | exact cArr4_Arr2_Int_flat | exact cruntime_errorAddressString_flat | exact cudp_Head_flat | exact cipsix_Head_flat | exact cipfour_Head_flat | exact capi_Tuple_flat | exact ctcp_Head_flat) _) id⟩, ?_⟩ | refine ⟨⟨_, _, rfl, rfl, .tyF (vI_flat _ _)⟩, ?_⟩ | refine ⟨⟨_, _, rfl, rfl, .ty rfl⟩, ?_⟩ | refine ⟨⟨_, _, rfl, rfl, .cells rfl⟩, ?_⟩ | refine ⟨⟨_, _, rfl, rfl, .row rfl id⟩, ?_⟩ | refine ⟨⟨_, _, rfl, rfl, .cr rfl⟩, ?_⟩ | refine ⟨⟨_, _, rfl, rfl, .rc rfl⟩, ?_⟩ | refine ⟨⟨_, _, rfl, rfl, .marks⟩, ?_⟩ | refine ⟨⟨_, _, rfl, rfl, .siter _ _⟩, ?_⟩ | refine ⟨⟨_, _, rfl, rfl, .loop rfl rfl rfl rfl (by repeat' first | exact trivial | refine ⟨rfl, ?_⟩) rfl rfl rfl rfl⟩, ?_⟩)
theorem ok77 (octet_Put : Int → Int → Option (List UInt8)) (hS : SumsOK Try.prog (aget (sums77 octet_Put))) : SumOK Try.prog 77 (s77 (ipfour_rowF octet_Put)) := by
  refine SumOK.of_leads tab_ok (fun ar os r ha hr => ?_) ⟨Try.f77, rfl, by decide, rfl⟩
  replace hr : r77 (ipfour_rowF octet_Put) ar (conts os) = some r := hr
  unfold r77 at hr
  generalize hc : conts os = C at hr
  have hq := dSl.elim hr; clear hr; obtain ⟨c0, l1, C, y0, rfl, rfl, e0, hr⟩ := hq; obtain rfl := unI_eq e0
  replace hr := dFin hr; obtain ⟨rfl, rfl, x, h, rfl⟩ := hr
  obtain ⟨os, rfl, ha, hc⟩ := kinds_some ha hc
  obtain rfl := kinds_nil hc
  exact ⟨_, rfl, leads77 octet_Put hS _ x h⟩
def ipfour_row : (List Int) → Option (List UInt8) := ipfour_rowF octet_Put
theorem lift77 : SumOK Try.prog 77 (s77 ipfour_row) := ok77 octet_Put (SumsOK.of_tab ⟨lift62, trivial⟩)
def ipfour_PseudoF (addr_Put : api_Addr → Option (List UInt8)) (addr_Right : api_Addr → Option Bool) (ipfour_row : (List Int) → Option (List UInt8)) (src : api_Addr) (dst : api_Addr) (proto : Int) (n : Int) : Option (List UInt8) :=
  (addr_Right src).bind fun xr =>
  cond (!xr)
    (
    some ([]))
    (
    (addr_Right dst).bind fun xr1 =>
    cond (!xr1)
      (
      some ([]))
      (
      cond (!(src.V6 == dst.V6))
        (
        some ([]))
        (
        (addr_Put src).bind fun p =>
        (addr_Put dst).bind fun p1 =>
        oreq (decide (p.length + p1.length < 2 ^ 63)) <|
        cond (src.V6)
          (
          (ipfour_row [n, 4, 0, 3, proto, 1]).bind fun xr2 =>
          oreq (decide ((p ++ p1).length + xr2.length < 2 ^ 63)) <|
          some ((p ++ p1) ++ xr2))
          (
          (ipfour_row [0, 1, proto, 1, n, 2]).bind fun xr3 =>
          oreq (decide ((p ++ p1).length + xr3.length < 2 ^ 63)) <|
          some ((p ++ p1) ++ xr3)))))
def rx27 (x : List UInt8) : SRes := ⟨.string ⟨⟨x⟩⟩, [], []⟩
def r27 (g : api_Addr → api_Addr → Int → Int → Option (List UInt8)) : Dec := dV uvapi_Addr fun (y0 : api_Addr) => dV uvapi_Addr fun (y1 : api_Addr) => dV (asI .i64) fun (y2 : Int) => dV (asI .i64) fun (y3 : Int) => dEnd (ofG (g y0 y1 y2 y3) rx27)
theorem r27_c {g : api_Addr → api_Addr → Int → Int → Option (List UInt8)} {y0 : api_Addr} {y1 : api_Addr} {y2 : Int} {y3 : Int} {x : List UInt8} (hx : g y0 y1 y2 y3 = some x) : r27 g [.agg ⟨[.bool y0.V6, .int .u64 y0.Hi, .int .u64 y0.Lo]⟩, .agg ⟨[.bool y1.V6, .int .u64 y1.Hi, .int .u64 y1.Lo]⟩, .int .i64 y2, .int .i64 y3] [] = some (rx27 x) := (dV_eq (uvapi_Addr_c _)).trans ((dV_eq (uvapi_Addr_c _)).trans ((dV_eq (asI_c _)).trans ((dV_eq (asI_c _)).trans (ofG_eq hx))))
def s27 (g : api_Addr → api_Addr → Int → Int → Option (List UInt8)) : Summ := ⟨[.v, .v, .v, .v], r27 g⟩
theorem r27_eq {g : api_Addr → api_Addr → Int → Int → Option (List UInt8)} {y0 : api_Addr} {y1 : api_Addr} {y2 : Int} {y3 : Int} {x : List UInt8} (hx : g y0 y1 y2 y3 = some x) : (s27 g).run [.agg ⟨[.bool y0.V6, .int .u64 y0.Hi, .int .u64 y0.Lo]⟩, .agg ⟨[.bool y1.V6, .int .u64 y1.Hi, .int .u64 y1.Lo]⟩, .int .i64 y2, .int .i64 y3] [] = some (rx27 x) := r27_c hx
abbrev sums27 (addr_Put : api_Addr → Option (List UInt8)) (addr_Right : api_Addr → Option Bool) (ipfour_row : (List Int) → Option (List UInt8)) : List (Nat × Summ) := [(78, s78 addr_Put), (85, s85 addr_Right), (77, s77 ipfour_row)]
theorem leads27 (addr_Put : api_Addr → Option (List UInt8)) (addr_Right : api_Addr → Option Bool) (ipfour_row : (List Int) → Option (List UInt8)) (hS : SumsOK Try.prog (aget (sums27 addr_Put addr_Right ipfour_row))) (src : api_Addr) (dst : api_Addr) (proto : Int) (n : Int) (res : List UInt8) (h : ipfour_PseudoF addr_Put addr_Right ipfour_row src dst proto n = some res) :
    Leads Try.prog 27 0 ⟨⟨27, 44, [(0, .agg ⟨[.bool src.V6, .int .u64 src.Hi, .int .u64 src.Lo]⟩), (1, .agg ⟨[.bool dst.V6, .int .u64 dst.Hi, .int .u64 dst.Lo]⟩), (2, .int .i64 proto), (3, .int .i64 n)], [.code k27_17], [], false, none⟩, [], [], 0⟩ (fun v H _ => Res 0 (rx27 res) v H) := by
  unfold ipfour_PseudoF at h
  refine ev_ok tab_ok hS true 3000 ?_
  conv => whnf
  replace h := obind.elim h; obtain ⟨xr, hy, h⟩ := h
  refine sumK.q rfl rfl (r85_eq hy) rfl rfl rfl ?_
  conv => whnf
  refine br.h h ?_ ?_ ?_
  · rfl
  · clear h; intro hb h; conv => whnf
    all_goals (cases h; exact Res.z rfl rfl rfl)
  clear h; intro hb h; conv => whnf
  replace h := obind.elim h; obtain ⟨xr1, hy, h⟩ := h
  refine sumK.q rfl rfl (r85_eq hy) rfl rfl rfl ?_
  conv => whnf
  refine br.h h ?_ ?_ ?_
  · rfl
  · clear h; intro hb h; conv => whnf
    all_goals (cases h; exact Res.z rfl rfl rfl)
  clear h; intro hb h; conv => whnf
  refine br.h h ?_ ?_ ?_
  · rfl
  · clear h; intro hb h; conv => whnf
    all_goals (cases h; exact Res.z rfl rfl rfl)
  clear h; intro hb h; conv => whnf
  replace h := obind.elim h; obtain ⟨p, hy, h⟩ := h
  refine sumK.q rfl rfl (r78_eq hy) rfl rfl rfl ?_
  conv => whnf
  replace h := obind.elim h; obtain ⟨p1, hy, h⟩ := h
  refine sumK.q rfl rfl (r78_eq hy) rfl rfl rfl ?_
  conv => whnf
  replace h := oreq.elim h; obtain ⟨hb, h⟩ := h
  first | (refine req.intro hb ?_; conv => whnf) | skip
  refine br.h h ?_ ?_ ?_
  · rfl
  · clear h; intro hb h; conv => whnf
    replace h := obind.elim h; obtain ⟨xr2, hy, h⟩ := h
    refine sumK.introF [] (sumRun_of (aqs := [.slice (some ⟨0, 0, none⟩) ([n, 4, 0, 3, proto, 1] : List Int).length 1]) (ws := [.win 5 0 (6 * 1) false]) (n := 0) (m := 0) (t' := 6) (ra_cons (by first | rfl | exact ra_allI rfl rfl (by first | rfl | omega) (by first | rfl | (simp; done)) | exact ra_slI rfl rfl (by first | rfl | omega) (by first | rfl | omega) (by first | omega | (simp at *; omega))) rfl ra_nil) rfl (by rfl) (r77_eq hy) rfl rfl rfl rfl (wb_skip rfl wb_nil) an_nil rfl) ?_
    conv => whnf
    replace h := oreq.elim h; obtain ⟨hb, h⟩ := h
    first | (refine req.intro hb ?_; conv => whnf) | skip
    all_goals (cases h; exact Res.z rfl rfl rfl)
  clear h; intro hb h; conv => whnf
  replace h := obind.elim h; obtain ⟨xr3, hy, h⟩ := h
  refine sumK.introF [] (sumRun_of (aqs := [.slice (some ⟨0, 0, none⟩) ([0, 1, proto, 1, n, 2] : List Int).length 1]) (ws := [.win 5 0 (6 * 1) false]) (n := 0) (m := 0) (t' := 6) (ra_cons (by first | rfl | exact ra_allI rfl rfl (by first | rfl | omega) (by first | rfl | (simp; done)) | exact ra_slI rfl rfl (by first | rfl | omega) (by first | rfl | omega) (by first | omega | (simp at *; omega))) rfl ra_nil) rfl (by rfl) (r77_eq hy) rfl rfl rfl rfl (wb_skip rfl wb_nil) an_nil rfl) ?_
  conv => whnf
  replace h := oreq.elim h; obtain ⟨hb, h⟩ := h
  first | (refine req.intro hb ?_; conv => whnf) | skip
  all_goals (cases h; exact Res.z rfl rfl rfl)
theorem ok27 (addr_Put : api_Addr → Option (List UInt8)) (addr_Right : api_Addr → Option Bool) (ipfour_row : (List Int) → Option (List UInt8)) (hS : SumsOK Try.prog (aget (sums27 addr_Put addr_Right ipfour_row))) : SumOK Try.prog 27 (s27 (ipfour_PseudoF addr_Put addr_Right ipfour_row)) := by
  refine SumOK.of_leads tab_ok (fun ar os r ha hr => ?_) ⟨Try.f27, rfl, by decide, rfl⟩
  replace hr : r27 (ipfour_PseudoF addr_Put addr_Right ipfour_row) ar (conts os) = some r := hr
  unfold r27 at hr
  generalize hc : conts os = C at hr
  replace hr := dV.elim hr; obtain ⟨v0, l1, y0, rfl, e0, hr⟩ := hr; obtain rfl := uvapi_Addr_eq _ _ e0
  replace hr := dV.elim hr; obtain ⟨v1, l2, y1, rfl, e1, hr⟩ := hr; obtain rfl := uvapi_Addr_eq _ _ e1
  replace hr := dV.elim hr; obtain ⟨v2, l3, y2, rfl, e2, hr⟩ := hr; obtain rfl := asI_eq _ _ _ e2
  replace hr := dV.elim hr; obtain ⟨v3, l4, y3, rfl, e3, hr⟩ := hr; obtain rfl := asI_eq _ _ _ e3
  replace hr := dFin hr; obtain ⟨rfl, rfl, x, h, rfl⟩ := hr
  obtain rfl := kinds_nil hc
  exact ⟨_, rfl, leads27 addr_Put addr_Right ipfour_row hS _ _ _ _ x h⟩
def ipfour_Pseudo : api_Addr → api_Addr → Int → Int → Option (List UInt8) := ipfour_PseudoF addr_Put addr_Right ipfour_row
theorem lift27 : SumOK Try.prog 27 (s27 ipfour_Pseudo) := ok27 addr_Put addr_Right ipfour_row (SumsOK.of_tab ⟨lift78, lift85, lift77, trivial⟩)
def R05_numF (R02_Put : Int → Int → Option (List UInt8)) (n : Int) (k : Int) : Option (List UInt8) :=
  (R02_Put (wI .u64 n) k).bind fun p =>
  some (p)
def rx80 (x : List UInt8) : SRes := ⟨.string ⟨⟨x⟩⟩, [], []⟩
def r80 (g : Int → Int → Option (List UInt8)) : Dec := dV (asI .i64) fun (y0 : Int) => dV (asI .i64) fun (y1 : Int) => dEnd (ofG (g y0 y1) rx80)
theorem r80_c {g : Int → Int → Option (List UInt8)} {y0 : Int} {y1 : Int} {x : List UInt8} (hx : g y0 y1 = some x) : r80 g [.int .i64 y0, .int .i64 y1] [] = some (rx80 x) := (dV_eq (asI_c _)).trans ((dV_eq (asI_c _)).trans (ofG_eq hx))
def s80 (g : Int → Int → Option (List UInt8)) : Summ := ⟨[.v, .v], r80 g⟩
theorem r80_eq {g : Int → Int → Option (List UInt8)} {y0 : Int} {y1 : Int} {x : List UInt8} (hx : g y0 y1 = some x) : (s80 g).run [.int .i64 y0, .int .i64 y1] [] = some (rx80 x) := r80_c hx
abbrev sums80 (R02_Put : Int → Int → Option (List UInt8)) : List (Nat × Summ) := [(67, s67 R02_Put)]
theorem leads80 (R02_Put : Int → Int → Option (List UInt8)) (hS : SumsOK Try.prog (aget (sums80 R02_Put))) (n : Int) (k : Int) (res : List UInt8) (h : R05_numF R02_Put n k = some res) :
    Leads Try.prog 80 0 ⟨⟨80, 9, [(0, .int .i64 n), (1, .int .i64 k)], [.code k80_3], [], false, none⟩, [], [], 0⟩ (fun v H _ => Res 0 (rx80 res) v H) := by
  unfold R05_numF at h
  refine ev_ok tab_ok hS true 3000 ?_
  conv => whnf
  replace h := obind.elim h; obtain ⟨p, hy, h⟩ := h
  refine sumK.q rfl rfl (r67_eq hy) rfl rfl rfl ?_
  conv => whnf
  all_goals (cases h; exact Res.z rfl rfl rfl)
theorem ok80 (R02_Put : Int → Int → Option (List UInt8)) (hS : SumsOK Try.prog (aget (sums80 R02_Put))) : SumOK Try.prog 80 (s80 (R05_numF R02_Put)) := by
  refine SumOK.of_leads tab_ok (fun ar os r ha hr => ?_) ⟨Try.f80, rfl, by decide, rfl⟩
  replace hr : r80 (R05_numF R02_Put) ar (conts os) = some r := hr
  unfold r80 at hr
  generalize hc : conts os = C at hr
  replace hr := dV.elim hr; obtain ⟨v0, l1, y0, rfl, e0, hr⟩ := hr; obtain rfl := asI_eq _ _ _ e0
  replace hr := dV.elim hr; obtain ⟨v1, l2, y1, rfl, e1, hr⟩ := hr; obtain rfl := asI_eq _ _ _ e1
  replace hr := dFin hr; obtain ⟨rfl, rfl, x, h, rfl⟩ := hr
  obtain rfl := kinds_nil hc
  exact ⟨_, rfl, leads80 R02_Put hS _ _ x h⟩
def R05_num : Int → Int → Option (List UInt8) := R05_numF R02_Put
theorem lift80 : SumOK Try.prog 80 (s80 R05_num) := ok80 R02_Put (SumsOK.of_tab ⟨lift67, trivial⟩)
def R05_PseudoF (R04_Put : api_Addr → Option (List UInt8)) (R04_Right : api_Addr → Option Bool) (R05_num : Int → Int → Option (List UInt8)) (src : api_Addr) (dst : api_Addr) (proto : Int) (n : Int) : Option (List UInt8) :=
  (R04_Right src).bind fun xr =>
  cond (!xr)
    (
    some ([]))
    (
    (R04_Right dst).bind fun xr1 =>
    cond (!xr1)
      (
      some ([]))
      (
      cond (!(src.V6 == dst.V6))
        (
        some ([]))
        (
        cond (src.V6)
          (
          (R04_Put src).bind fun p =>
          (R04_Put dst).bind fun p1 =>
          oreq (decide (p.length + p1.length < 2 ^ 63)) <|
          (R05_num n 4).bind fun n1 =>
          oreq (decide ((p ++ p1).length + n1.length < 2 ^ 63)) <|
          (R05_num 0 3).bind fun n2 =>
          oreq (decide (((p ++ p1) ++ n1).length + n2.length < 2 ^ 63)) <|
          (R05_num proto 1).bind fun n3 =>
          oreq (decide ((((p ++ p1) ++ n1) ++ n2).length + n3.length < 2 ^ 63)) <|
          some ((((p ++ p1) ++ n1) ++ n2) ++ n3))
          (
          (R04_Put src).bind fun p2 =>
          (R04_Put dst).bind fun p3 =>
          oreq (decide (p2.length + p3.length < 2 ^ 63)) <|
          (R05_num 0 1).bind fun n4 =>
          oreq (decide ((p2 ++ p3).length + n4.length < 2 ^ 63)) <|
          (R05_num proto 1).bind fun n5 =>
          oreq (decide (((p2 ++ p3) ++ n4).length + n5.length < 2 ^ 63)) <|
          (R05_num n 2).bind fun n6 =>
          oreq (decide ((((p2 ++ p3) ++ n4) ++ n5).length + n6.length < 2 ^ 63)) <|
          some ((((p2 ++ p3) ++ n4) ++ n5) ++ n6)))))
def rx28 (x : List UInt8) : SRes := ⟨.string ⟨⟨x⟩⟩, [], []⟩
def r28 (g : api_Addr → api_Addr → Int → Int → Option (List UInt8)) : Dec := dV uvapi_Addr fun (y0 : api_Addr) => dV uvapi_Addr fun (y1 : api_Addr) => dV (asI .i64) fun (y2 : Int) => dV (asI .i64) fun (y3 : Int) => dEnd (ofG (g y0 y1 y2 y3) rx28)
theorem r28_c {g : api_Addr → api_Addr → Int → Int → Option (List UInt8)} {y0 : api_Addr} {y1 : api_Addr} {y2 : Int} {y3 : Int} {x : List UInt8} (hx : g y0 y1 y2 y3 = some x) : r28 g [.agg ⟨[.bool y0.V6, .int .u64 y0.Hi, .int .u64 y0.Lo]⟩, .agg ⟨[.bool y1.V6, .int .u64 y1.Hi, .int .u64 y1.Lo]⟩, .int .i64 y2, .int .i64 y3] [] = some (rx28 x) := (dV_eq (uvapi_Addr_c _)).trans ((dV_eq (uvapi_Addr_c _)).trans ((dV_eq (asI_c _)).trans ((dV_eq (asI_c _)).trans (ofG_eq hx))))
def s28 (g : api_Addr → api_Addr → Int → Int → Option (List UInt8)) : Summ := ⟨[.v, .v, .v, .v], r28 g⟩
theorem r28_eq {g : api_Addr → api_Addr → Int → Int → Option (List UInt8)} {y0 : api_Addr} {y1 : api_Addr} {y2 : Int} {y3 : Int} {x : List UInt8} (hx : g y0 y1 y2 y3 = some x) : (s28 g).run [.agg ⟨[.bool y0.V6, .int .u64 y0.Hi, .int .u64 y0.Lo]⟩, .agg ⟨[.bool y1.V6, .int .u64 y1.Hi, .int .u64 y1.Lo]⟩, .int .i64 y2, .int .i64 y3] [] = some (rx28 x) := r28_c hx
abbrev sums28 (R04_Put : api_Addr → Option (List UInt8)) (R04_Right : api_Addr → Option Bool) (R05_num : Int → Int → Option (List UInt8)) : List (Nat × Summ) := [(81, s81 R04_Put), (86, s86 R04_Right), (80, s80 R05_num)]
theorem leads28 (R04_Put : api_Addr → Option (List UInt8)) (R04_Right : api_Addr → Option Bool) (R05_num : Int → Int → Option (List UInt8)) (hS : SumsOK Try.prog (aget (sums28 R04_Put R04_Right R05_num))) (src : api_Addr) (dst : api_Addr) (proto : Int) (n : Int) (res : List UInt8) (h : R05_PseudoF R04_Put R04_Right R05_num src dst proto n = some res) :
    Leads Try.prog 28 0 ⟨⟨28, 52, [(0, .agg ⟨[.bool src.V6, .int .u64 src.Hi, .int .u64 src.Lo]⟩), (1, .agg ⟨[.bool dst.V6, .int .u64 dst.Hi, .int .u64 dst.Lo]⟩), (2, .int .i64 proto), (3, .int .i64 n)], [.code k28_15], [], false, none⟩, [], [], 0⟩ (fun v H _ => Res 0 (rx28 res) v H) := by
  unfold R05_PseudoF at h
  refine ev_ok tab_ok hS true 3000 ?_
  conv => whnf
  replace h := obind.elim h; obtain ⟨xr, hy, h⟩ := h
  refine sumK.q rfl rfl (r86_eq hy) rfl rfl rfl ?_
  conv => whnf
  refine br.h h ?_ ?_ ?_
  · rfl
  · clear h; intro hb h; conv => whnf
    all_goals (cases h; exact Res.z rfl rfl rfl)
  clear h; intro hb h; conv => whnf
  replace h := obind.elim h; obtain ⟨xr1, hy, h⟩ := h
  refine sumK.q rfl rfl (r86_eq hy) rfl rfl rfl ?_
  conv => whnf
  refine br.h h ?_ ?_ ?_
  · rfl
  · clear h; intro hb h; conv => whnf
    all_goals (cases h; exact Res.z rfl rfl rfl)
  clear h; intro hb h; conv => whnf
  refine br.h h ?_ ?_ ?_
  · rfl
  · clear h; intro hb h; conv => whnf
    all_goals (cases h; exact Res.z rfl rfl rfl)
  clear h; intro hb h; conv => whnf
  refine br.h h ?_ ?_ ?_
  · rfl
  · clear h; intro hb h; conv => whnf
    replace h := obind.elim h; obtain ⟨p, hy, h⟩ := h
    refine sumK.q rfl rfl (r81_eq hy) rfl rfl rfl ?_
    conv => whnf
    replace h := obind.elim h; obtain ⟨p1, hy, h⟩ := h
    refine sumK.q rfl rfl (r81_eq hy) rfl rfl rfl ?_
    conv => whnf
    replace h := oreq.elim h; obtain ⟨hb, h⟩ := h
    first | (refine req.intro hb ?_; conv => whnf) | skip
    replace h := obind.elim h; obtain ⟨n1, hy, h⟩ := h
    refine sumK.q rfl rfl (r80_eq hy) rfl rfl rfl ?_
    conv => whnf
    replace h := oreq.elim h; obtain ⟨hb, h⟩ := h
    first | (refine req.intro hb ?_; conv => whnf) | skip
    replace h := obind.elim h; obtain ⟨n2, hy, h⟩ := h
    refine sumK.q rfl rfl (r80_eq hy) rfl rfl rfl ?_
    conv => whnf
    replace h := oreq.elim h; obtain ⟨hb, h⟩ := h
    first | (refine req.intro hb ?_; conv => whnf) | skip
    replace h := obind.elim h; obtain ⟨n3, hy, h⟩ := h
    refine sumK.q rfl rfl (r80_eq hy) rfl rfl rfl ?_
    conv => whnf
    replace h := oreq.elim h; obtain ⟨hb, h⟩ := h
    first | (refine req.intro hb ?_; conv => whnf) | skip
    all_goals (cases h; exact Res.z rfl rfl rfl)
  clear h; intro hb h; conv => whnf
  replace h := obind.elim h; obtain ⟨p2, hy, h⟩ := h
  refine sumK.q rfl rfl (r81_eq hy) rfl rfl rfl ?_
  conv => whnf
  replace h := obind.elim h; obtain ⟨p3, hy, h⟩ := h
  refine sumK.q rfl rfl (r81_eq hy) rfl rfl rfl ?_
  conv => whnf
  replace h := oreq.elim h; obtain ⟨hb, h⟩ := h
  first | (refine req.intro hb ?_; conv => whnf) | skip
  replace h := obind.elim h; obtain ⟨n4, hy, h⟩ := h
  refine sumK.q rfl rfl (r80_eq hy) rfl rfl rfl ?_
  conv => whnf
  replace h := oreq.elim h; obtain ⟨hb, h⟩ := h
  first | (refine req.intro hb ?_; conv => whnf) | skip
  replace h := obind.elim h; obtain ⟨n5, hy, h⟩ := h
  refine sumK.q rfl rfl (r80_eq hy) rfl rfl rfl ?_
  conv => whnf
  replace h := oreq.elim h; obtain ⟨hb, h⟩ := h
  first | (refine req.intro hb ?_; conv => whnf) | skip
  replace h := obind.elim h; obtain ⟨n6, hy, h⟩ := h
  refine sumK.q rfl rfl (r80_eq hy) rfl rfl rfl ?_
  conv => whnf
  replace h := oreq.elim h; obtain ⟨hb, h⟩ := h
  first | (refine req.intro hb ?_; conv => whnf) | skip
  all_goals (cases h; exact Res.z rfl rfl rfl)
theorem ok28 (R04_Put : api_Addr → Option (List UInt8)) (R04_Right : api_Addr → Option Bool) (R05_num : Int → Int → Option (List UInt8)) (hS : SumsOK Try.prog (aget (sums28 R04_Put R04_Right R05_num))) : SumOK Try.prog 28 (s28 (R05_PseudoF R04_Put R04_Right R05_num)) := by
  refine SumOK.of_leads tab_ok (fun ar os r ha hr => ?_) ⟨Try.f28, rfl, by decide, rfl⟩
  replace hr : r28 (R05_PseudoF R04_Put R04_Right R05_num) ar (conts os) = some r := hr
  unfold r28 at hr
  generalize hc : conts os = C at hr
  replace hr := dV.elim hr; obtain ⟨v0, l1, y0, rfl, e0, hr⟩ := hr; obtain rfl := uvapi_Addr_eq _ _ e0
  replace hr := dV.elim hr; obtain ⟨v1, l2, y1, rfl, e1, hr⟩ := hr; obtain rfl := uvapi_Addr_eq _ _ e1
  replace hr := dV.elim hr; obtain ⟨v2, l3, y2, rfl, e2, hr⟩ := hr; obtain rfl := asI_eq _ _ _ e2
  replace hr := dV.elim hr; obtain ⟨v3, l4, y3, rfl, e3, hr⟩ := hr; obtain rfl := asI_eq _ _ _ e3
  replace hr := dFin hr; obtain ⟨rfl, rfl, x, h, rfl⟩ := hr
  obtain rfl := kinds_nil hc
  exact ⟨_, rfl, leads28 R04_Put R04_Right R05_num hS _ _ _ _ x h⟩
def R05_Pseudo : api_Addr → api_Addr → Int → Int → Option (List UInt8) := R05_PseudoF R04_Put R04_Right R05_num
theorem lift28 : SumOK Try.prog 28 (s28 R05_Pseudo) := ok28 R04_Put R04_Right R05_num (SumsOK.of_tab ⟨lift81, lift86, lift80, trivial⟩)
def octet_Reader_BadF (ra0 : octet_Reader) : Option (Bool × octet_Reader) :=
  cond (!ra0.made)
    (
    some ((true, ra0)))
    (
    some ((ra0.bad, ra0)))
def rx72 (x : Bool × octet_Reader) : SRes := ⟨.bool x.1, [], [some [.string ⟨⟨x.2.s⟩⟩, .bool x.2.made, .bool x.2.bad]]⟩
def r72 (g : octet_Reader → Option (Bool × octet_Reader)) : Dec := dPt 0 unoctet_Reader fun (y0 : octet_Reader) => dEnd (ofG (g y0) rx72)
theorem r72_c {g : octet_Reader → Option (Bool × octet_Reader)} {y0 : octet_Reader} {x : Bool × octet_Reader} (hx : g y0 = some x) : r72 g [.pointer (some ⟨0, 0, none⟩)] [some [.string ⟨⟨y0.s⟩⟩, .bool y0.made, .bool y0.bad]] = some (rx72 x) := (dPt_eq (unoctet_Reader_c _)).trans (ofG_eq hx)
def s72 (g : octet_Reader → Option (Bool × octet_Reader)) : Summ := ⟨[.pt 3], r72 g⟩
theorem r72_eq {g : octet_Reader → Option (Bool × octet_Reader)} {y0 : octet_Reader} {x : Bool × octet_Reader} (hx : g y0 = some x) : (s72 g).run [.pointer (some ⟨0, 0, none⟩)] [some [.string ⟨⟨y0.s⟩⟩, .bool y0.made, .bool y0.bad]] = some (rx72 x) := r72_c hx
abbrev sums72 : List (Nat × Summ) := []
theorem leads72 (hS : SumsOK Try.prog (aget (sums72))) (ra0 : octet_Reader) (res : Bool × octet_Reader) (h : octet_Reader_BadF ra0 = some res) :
    Leads Try.prog 72 1 ⟨⟨72, 18, [(0, .pointer (some ⟨0, 0, none⟩))], [.code k72_3], [], false, none⟩, [], [(0, .cells [.string ⟨⟨ra0.s⟩⟩, .bool ra0.made, .bool ra0.bad])], 1⟩ (fun v H _ => Res 1 (rx72 res) v H) := by
  unfold octet_Reader_BadF at h
  refine ev_ok tab_ok hS true 3000 ?_
  conv => whnf
  refine br.h h ?_ ?_ ?_
  · rfl
  · clear h; intro hb h; conv => whnf
    all_goals (cases h)
    all_goals exact Res.of [] rfl nw_0 (by decide) js_0 (wr_s (rfl) (hs_cells rfl) wr_0)
  clear h; intro hb h; conv => whnf
  all_goals (cases h)
  all_goals exact Res.of [] rfl nw_0 (by decide) js_0 (wr_s (rfl) (hs_cells rfl) wr_0)
theorem ok72 (hS : SumsOK Try.prog (aget (sums72))) : SumOK Try.prog 72 (s72 (octet_Reader_BadF)) := by
  refine SumOK.of_leads tab_ok (fun ar os r ha hr => ?_) ⟨Try.f72, rfl, by decide, rfl⟩
  replace hr : r72 (octet_Reader_BadF) ar (conts os) = some r := hr
  unfold r72 at hr
  generalize hc : conts os = C at hr
  have hq := dPt.elim hr; clear hr; obtain ⟨c0, l1, C, y0, rfl, rfl, e0, hr⟩ := hq; obtain rfl := unoctet_Reader_eq _ _ e0
  replace hr := dFin hr; obtain ⟨rfl, rfl, x, h, rfl⟩ := hr
  obtain ⟨os, rfl, ha, hc⟩ := kinds_some ha hc
  obtain rfl := kinds_nil hc
  exact ⟨_, rfl, leads72 hS _ x h⟩
def octet_Reader_Bad : octet_Reader → Option (Bool × octet_Reader) := octet_Reader_BadF
theorem lift72 : SumOK Try.prog 72 (s72 octet_Reader_Bad) := ok72 (SumsOK.of_tab trivial)
def octet_Reader_TextF (octet_Reader_Bad : octet_Reader → Option (Bool × octet_Reader)) (ra0 : octet_Reader) (n : Int) : Option ((List UInt8) × octet_Reader) :=
  (octet_Reader_Bad ra0).bind fun b =>
  cond (b.1)
    (
    some (([], b.2)))
    (
    cond (decide (n < 0))
      (
      some (([], octet_Reader.mk b.2.s b.2.made true)))
      (
      cond (decide (n > (b.2.s.length : Int)))
        (
        some (([], octet_Reader.mk b.2.s b.2.made true)))
        (
        oreq (decide ((0 : Int) ≤ n ∧ n ≤ (b.2.s.length : Int))) <|
        oreq (decide ((0 : Int) ≤ n ∧ n ≤ (b.2.s.length : Int))) <|
        let t := (b.2.s.drop n.toNat).take (b.2.s.length - n.toNat)
        some ((b.2.s.take n.toNat, octet_Reader.mk t b.2.made b.2.bad)))))
def rx83 (x : (List UInt8) × octet_Reader) : SRes := ⟨.string ⟨⟨x.1⟩⟩, [], [some [.string ⟨⟨x.2.s⟩⟩, .bool x.2.made, .bool x.2.bad]]⟩
def r83 (g : octet_Reader → Int → Option ((List UInt8) × octet_Reader)) : Dec := dPt 0 unoctet_Reader fun (y0 : octet_Reader) => dV (asI .i64) fun (y1 : Int) => dEnd (ofG (g y0 y1) rx83)
theorem r83_c {g : octet_Reader → Int → Option ((List UInt8) × octet_Reader)} {y0 : octet_Reader} {y1 : Int} {x : (List UInt8) × octet_Reader} (hx : g y0 y1 = some x) : r83 g [.pointer (some ⟨0, 0, none⟩), .int .i64 y1] [some [.string ⟨⟨y0.s⟩⟩, .bool y0.made, .bool y0.bad]] = some (rx83 x) := (dPt_eq (unoctet_Reader_c _)).trans ((dV_eq (asI_c _)).trans (ofG_eq hx))
def s83 (g : octet_Reader → Int → Option ((List UInt8) × octet_Reader)) : Summ := ⟨[.pt 3, .v], r83 g⟩
theorem r83_eq {g : octet_Reader → Int → Option ((List UInt8) × octet_Reader)} {y0 : octet_Reader} {y1 : Int} {x : (List UInt8) × octet_Reader} (hx : g y0 y1 = some x) : (s83 g).run [.pointer (some ⟨0, 0, none⟩), .int .i64 y1] [some [.string ⟨⟨y0.s⟩⟩, .bool y0.made, .bool y0.bad]] = some (rx83 x) := r83_c hx
abbrev sums83 (octet_Reader_Bad : octet_Reader → Option (Bool × octet_Reader)) : List (Nat × Summ) := [(72, s72 octet_Reader_Bad)]
theorem leads83 (octet_Reader_Bad : octet_Reader → Option (Bool × octet_Reader)) (hS : SumsOK Try.prog (aget (sums83 octet_Reader_Bad))) (ra0 : octet_Reader) (n : Int) (res : (List UInt8) × octet_Reader) (h : octet_Reader_TextF octet_Reader_Bad ra0 n = some res) :
    Leads Try.prog 83 1 ⟨⟨83, 38, [(0, .pointer (some ⟨0, 0, none⟩)), (1, .int .i64 n)], [.code k83_21], [], false, none⟩, [], [(0, .cells [.string ⟨⟨ra0.s⟩⟩, .bool ra0.made, .bool ra0.bad])], 1⟩ (fun v H _ => Res 1 (rx83 res) v H) := by
  unfold octet_Reader_TextF at h
  refine ev_ok tab_ok hS true 3000 ?_
  conv => whnf
  replace h := obind.elim h; obtain ⟨b, hy, h⟩ := h
  refine sumK.introF [0] (sumRun_of (aqs := [.pointer (some ⟨0, 0, none⟩)]) (ws := [.win 0 0 3 true]) (n := 0) (m := 0) (t' := 1) (ra_cons rfl rfl ra_nil) rfl (by rfl) (r72_eq hy) rfl rfl rfl rfl (wb_win rfl rfl rfl ⟨rfl, Nat.le_of_ble_eq_true rfl⟩ rfl rfl wb_nil) an_nil rfl) ?_
  conv => whnf
  refine br.h h ?_ ?_ ?_
  · rfl
  · clear h; intro hb h; conv => whnf
    all_goals (cases h)
    all_goals exact Res.of [] rfl nw_0 (by decide) js_0 (wr_s (rfl) (hs_cells rfl) wr_0)
  clear h; intro hb h; conv => whnf
  refine br.h h ?_ ?_ ?_
  · rfl
  · clear h; intro hb h; conv => whnf
    all_goals (cases h)
    all_goals exact Res.of [] rfl nw_0 (by decide) js_0 (wr_s (rfl) (hs_cells rfl) wr_0)
  clear h; intro hb h; conv => whnf
  refine br.h h ?_ ?_ ?_
  · rfl
  · clear h; intro hb h; conv => whnf
    all_goals (cases h)
    all_goals exact Res.of [] rfl nw_0 (by decide) js_0 (wr_s (rfl) (hs_cells rfl) wr_0)
  clear h; intro hb h; conv => whnf
  replace h := oreq.elim h; obtain ⟨hb, h⟩ := h
  first | (refine req.intro hb ?_; conv => whnf) | skip
  replace h := oreq.elim h; obtain ⟨hb, h⟩ := h
  first | (refine req.intro hb ?_; conv => whnf) | skip
  let t : List UInt8 := (b.2.s.drop n.toNat).take (b.2.s.length - n.toNat)
  all_goals (cases h)
  all_goals exact Res.of [] rfl nw_0 (by decide) js_0 (wr_s (rfl) (hs_cells rfl) wr_0)
theorem ok83 (octet_Reader_Bad : octet_Reader → Option (Bool × octet_Reader)) (hS : SumsOK Try.prog (aget (sums83 octet_Reader_Bad))) : SumOK Try.prog 83 (s83 (octet_Reader_TextF octet_Reader_Bad)) := by
  refine SumOK.of_leads tab_ok (fun ar os r ha hr => ?_) ⟨Try.f83, rfl, by decide, rfl⟩
  replace hr : r83 (octet_Reader_TextF octet_Reader_Bad) ar (conts os) = some r := hr
  unfold r83 at hr
  generalize hc : conts os = C at hr
  have hq := dPt.elim hr; clear hr; obtain ⟨c0, l1, C, y0, rfl, rfl, e0, hr⟩ := hq; obtain rfl := unoctet_Reader_eq _ _ e0
  replace hr := dV.elim hr; obtain ⟨v1, l2, y1, rfl, e1, hr⟩ := hr; obtain rfl := asI_eq _ _ _ e1
  replace hr := dFin hr; obtain ⟨rfl, rfl, x, h, rfl⟩ := hr
  obtain ⟨os, rfl, ha, hc⟩ := kinds_some ha hc
  obtain rfl := kinds_nil hc
  exact ⟨_, rfl, leads83 octet_Reader_Bad hS _ _ x h⟩
def octet_Reader_Text : octet_Reader → Int → Option ((List UInt8) × octet_Reader) := octet_Reader_TextF octet_Reader_Bad
theorem lift83 : SumOK Try.prog 83 (s83 octet_Reader_Text) := ok83 octet_Reader_Bad (SumsOK.of_tab ⟨lift72, trivial⟩)
def octet_Reader_NumF (octet_Get : (List UInt8) → Int → Int → Option (Int × Bool)) (octet_Reader_Text : octet_Reader → Int → Option ((List UInt8) × octet_Reader)) (ra0 : octet_Reader) (k : Int) : Option (Int × octet_Reader) :=
  cond (decide (k < 1))
    (
    (octet_Reader_Text ra0 (-1)).bind fun t =>
    (octet_Get t.1 0 (-1)).bind fun xg =>
    some ((wI .i64 xg.1, t.2)))
    (
    cond (decide (k > 7))
      (
      (octet_Reader_Text ra0 (-1)).bind fun t1 =>
      (octet_Get t1.1 0 (-1)).bind fun xg1 =>
      some ((wI .i64 xg1.1, t1.2)))
      (
      (octet_Reader_Text ra0 k).bind fun t2 =>
      (octet_Get t2.1 0 k).bind fun xg2 =>
      some ((wI .i64 xg2.1, t2.2))))
def rx71 (x : Int × octet_Reader) : SRes := ⟨.int .i64 x.1, [], [some [.string ⟨⟨x.2.s⟩⟩, .bool x.2.made, .bool x.2.bad]]⟩
def r71 (g : octet_Reader → Int → Option (Int × octet_Reader)) : Dec := dPt 0 unoctet_Reader fun (y0 : octet_Reader) => dV (asI .i64) fun (y1 : Int) => dEnd (ofG (g y0 y1) rx71)
theorem r71_c {g : octet_Reader → Int → Option (Int × octet_Reader)} {y0 : octet_Reader} {y1 : Int} {x : Int × octet_Reader} (hx : g y0 y1 = some x) : r71 g [.pointer (some ⟨0, 0, none⟩), .int .i64 y1] [some [.string ⟨⟨y0.s⟩⟩, .bool y0.made, .bool y0.bad]] = some (rx71 x) := (dPt_eq (unoctet_Reader_c _)).trans ((dV_eq (asI_c _)).trans (ofG_eq hx))
def s71 (g : octet_Reader → Int → Option (Int × octet_Reader)) : Summ := ⟨[.pt 3, .v], r71 g⟩
theorem r71_eq {g : octet_Reader → Int → Option (Int × octet_Reader)} {y0 : octet_Reader} {y1 : Int} {x : Int × octet_Reader} (hx : g y0 y1 = some x) : (s71 g).run [.pointer (some ⟨0, 0, none⟩), .int .i64 y1] [some [.string ⟨⟨y0.s⟩⟩, .bool y0.made, .bool y0.bad]] = some (rx71 x) := r71_c hx
abbrev sums71 (octet_Get : (List UInt8) → Int → Int → Option (Int × Bool)) (octet_Reader_Text : octet_Reader → Int → Option ((List UInt8) × octet_Reader)) : List (Nat × Summ) := [(101, s101 octet_Get), (83, s83 octet_Reader_Text)]
theorem leads71 (octet_Get : (List UInt8) → Int → Int → Option (Int × Bool)) (octet_Reader_Text : octet_Reader → Int → Option ((List UInt8) × octet_Reader)) (hS : SumsOK Try.prog (aget (sums71 octet_Get octet_Reader_Text))) (ra0 : octet_Reader) (k : Int) (res : Int × octet_Reader) (h : octet_Reader_NumF octet_Get octet_Reader_Text ra0 k = some res) :
    Leads Try.prog 71 1 ⟨⟨71, 23, [(0, .pointer (some ⟨0, 0, none⟩)), (1, .int .i64 k)], [.code k71_10], [], false, none⟩, [], [(0, .cells [.string ⟨⟨ra0.s⟩⟩, .bool ra0.made, .bool ra0.bad])], 1⟩ (fun v H _ => Res 1 (rx71 res) v H) := by
  unfold octet_Reader_NumF at h
  refine ev_ok tab_ok hS true 3000 ?_
  conv => whnf
  refine br.h h ?_ ?_ ?_
  · rfl
  · clear h; intro hb h; conv => whnf
    replace h := obind.elim h; obtain ⟨t, hy, h⟩ := h
    refine sumK.introF [0] (sumRun_of (aqs := [.pointer (some ⟨0, 0, none⟩), .int .i64 (-1)]) (ws := [.win 0 0 3 true]) (n := 0) (m := 0) (t' := 1) (ra_cons rfl rfl (ra_cons rfl rfl ra_nil)) rfl (by rfl) (r83_eq hy) rfl rfl rfl rfl (wb_win rfl rfl rfl ⟨rfl, Nat.le_of_ble_eq_true rfl⟩ rfl rfl wb_nil) an_nil rfl) ?_
    conv => whnf
    replace h := obind.elim h; obtain ⟨xg, hy, h⟩ := h
    refine sumK.q rfl rfl (r101_eq hy) rfl rfl rfl ?_
    conv => whnf
    all_goals (cases h)
    all_goals exact Res.of [] rfl nw_0 (by decide) js_0 (wr_s (rfl) (hs_cells rfl) wr_0)
  clear h; intro hb h; conv => whnf
  refine br.h h ?_ ?_ ?_
  · rfl
  · clear h; intro hb h; conv => whnf
    replace h := obind.elim h; obtain ⟨t1, hy, h⟩ := h
    refine sumK.introF [0] (sumRun_of (aqs := [.pointer (some ⟨0, 0, none⟩), .int .i64 (-1)]) (ws := [.win 0 0 3 true]) (n := 0) (m := 0) (t' := 1) (ra_cons rfl rfl (ra_cons rfl rfl ra_nil)) rfl (by rfl) (r83_eq hy) rfl rfl rfl rfl (wb_win rfl rfl rfl ⟨rfl, Nat.le_of_ble_eq_true rfl⟩ rfl rfl wb_nil) an_nil rfl) ?_
    conv => whnf
    replace h := obind.elim h; obtain ⟨xg1, hy, h⟩ := h
    refine sumK.q rfl rfl (r101_eq hy) rfl rfl rfl ?_
    conv => whnf
    all_goals (cases h)
    all_goals exact Res.of [] rfl nw_0 (by decide) js_0 (wr_s (rfl) (hs_cells rfl) wr_0)
  clear h; intro hb h; conv => whnf
  replace h := obind.elim h; obtain ⟨t2, hy, h⟩ := h
  refine sumK.introF [0] (sumRun_of (aqs := [.pointer (some ⟨0, 0, none⟩), .int .i64 k]) (ws := [.win 0 0 3 true]) (n := 0) (m := 0) (t' := 1) (ra_cons rfl rfl (ra_cons rfl rfl ra_nil)) rfl (by rfl) (r83_eq hy) rfl rfl rfl rfl (wb_win rfl rfl rfl ⟨rfl, Nat.le_of_ble_eq_true rfl⟩ rfl rfl wb_nil) an_nil rfl) ?_
  conv => whnf
  replace h := obind.elim h; obtain ⟨xg2, hy, h⟩ := h
  refine sumK.q rfl rfl (r101_eq hy) rfl rfl rfl ?_
  conv => whnf
  all_goals (cases h)
  all_goals exact Res.of [] rfl nw_0 (by decide) js_0 (wr_s (rfl) (hs_cells rfl) wr_0)
theorem ok71 (octet_Get : (List UInt8) → Int → Int → Option (Int × Bool)) (octet_Reader_Text : octet_Reader → Int → Option ((List UInt8) × octet_Reader)) (hS : SumsOK Try.prog (aget (sums71 octet_Get octet_Reader_Text))) : SumOK Try.prog 71 (s71 (octet_Reader_NumF octet_Get octet_Reader_Text)) := by
  refine SumOK.of_leads tab_ok (fun ar os r ha hr => ?_) ⟨Try.f71, rfl, by decide, rfl⟩
  replace hr : r71 (octet_Reader_NumF octet_Get octet_Reader_Text) ar (conts os) = some r := hr
  unfold r71 at hr
  generalize hc : conts os = C at hr
  have hq := dPt.elim hr; clear hr; obtain ⟨c0, l1, C, y0, rfl, rfl, e0, hr⟩ := hq; obtain rfl := unoctet_Reader_eq _ _ e0
  replace hr := dV.elim hr; obtain ⟨v1, l2, y1, rfl, e1, hr⟩ := hr; obtain rfl := asI_eq _ _ _ e1
  replace hr := dFin hr; obtain ⟨rfl, rfl, x, h, rfl⟩ := hr
  obtain ⟨os, rfl, ha, hc⟩ := kinds_some ha hc
  obtain rfl := kinds_nil hc
  exact ⟨_, rfl, leads71 octet_Get octet_Reader_Text hS _ _ x h⟩
def octet_Reader_Num : octet_Reader → Int → Option (Int × octet_Reader) := octet_Reader_NumF octet_Get octet_Reader_Text
theorem lift71 : SumOK Try.prog 71 (s71 octet_Reader_Num) := ok71 octet_Get octet_Reader_Text (SumsOK.of_tab ⟨lift101, lift83, trivial⟩)
def octet_NewF (s : List UInt8) : Option octet_Reader :=
  some (octet_Reader.mk s true false)
def rx70 (x : octet_Reader) : SRes := ⟨.pointer (some ⟨0, 0, none⟩), [[.string ⟨⟨x.s⟩⟩, .bool x.made, .bool x.bad]], []⟩
def r70 (g : (List UInt8) → Option octet_Reader) : Dec := dV asS fun (y0 : List UInt8) => dEnd (ofG (g y0) rx70)
theorem r70_c {g : (List UInt8) → Option octet_Reader} {y0 : List UInt8} {x : octet_Reader} (hx : g y0 = some x) : r70 g [.string ⟨⟨y0⟩⟩] [] = some (rx70 x) := (dV_eq (asS_c)).trans (ofG_eq hx)
def s70 (g : (List UInt8) → Option octet_Reader) : Summ := ⟨[.v], r70 g⟩
theorem r70_eq {g : (List UInt8) → Option octet_Reader} {y0 : List UInt8} {x : octet_Reader} (hx : g y0 = some x) : (s70 g).run [.string ⟨⟨y0⟩⟩] [] = some (rx70 x) := r70_c hx
abbrev sums70 : List (Nat × Summ) := []
theorem leads70 (hS : SumsOK Try.prog (aget (sums70))) (s : List UInt8) (res : octet_Reader) (h : octet_NewF s = some res) :
    Leads Try.prog 70 0 ⟨⟨70, 6, [(0, .string ⟨⟨s⟩⟩)], [.code k70_3], [], false, none⟩, [], [], 0⟩ (fun v H _ => Res 0 (rx70 res) v H) := by
  unfold octet_NewF at h
  refine ev_ok tab_ok hS true 3000 ?_
  conv => whnf
  all_goals (cases h)
  all_goals exact Res.of [0] rfl (nw_s (rfl) (hs_cells rfl) nw_0) (by decide) (js_l (by decide) js_0) wr_0
theorem ok70 (hS : SumsOK Try.prog (aget (sums70))) : SumOK Try.prog 70 (s70 (octet_NewF)) := by
  refine SumOK.of_leads tab_ok (fun ar os r ha hr => ?_) ⟨Try.f70, rfl, by decide, rfl⟩
  replace hr : r70 (octet_NewF) ar (conts os) = some r := hr
  unfold r70 at hr
  generalize hc : conts os = C at hr
  replace hr := dV.elim hr; obtain ⟨v0, l1, y0, rfl, e0, hr⟩ := hr; obtain rfl := asS_eq _ _ e0
  replace hr := dFin hr; obtain ⟨rfl, rfl, x, h, rfl⟩ := hr
  obtain rfl := kinds_nil hc
  exact ⟨_, rfl, leads70 hS _ x h⟩
def octet_New : (List UInt8) → Option octet_Reader := octet_NewF
theorem lift70 : SumOK Try.prog 70 (s70 octet_New) := ok70 (SumsOK.of_tab trivial)
def ipsix_Head_mayF (ha0 : ipsix_Head) : Option Bool :=
  cond (decide (ha0.Class < 0))
    (
    some (false))
    (
    cond (decide (ha0.Class > 255))
      (
      some (false))
      (
      cond (decide (ha0.Label < 0))
        (
        some (false))
        (
        cond (decide (ha0.Label > 1048575))
          (
          some (false))
          (
          cond (decide (ha0.Next < 0))
            (
            some (false))
            (
            cond (decide (ha0.Next > 255))
              (
              some (false))
              (
              cond (decide (ha0.Hop < 0))
                (
                some (false))
                (
                cond (decide (ha0.Hop > 255))
                  (
                  some (false))
                  (
                  cond (ha0.Src.V6)
                    (
                    some (ha0.Dst.V6))
                    (
                    some (false))))))))))
def rx123 (x : Bool) : SRes := ⟨.bool x, [], []⟩
def r123 (g : ipsix_Head → Option Bool) : Dec := dV uvipsix_Head fun (y0 : ipsix_Head) => dEnd (ofG (g y0) rx123)
theorem r123_c {g : ipsix_Head → Option Bool} {y0 : ipsix_Head} {x : Bool} (hx : g y0 = some x) : r123 g [.agg ⟨[.int .i64 y0.Class, .int .i64 y0.Label, .int .i64 y0.Next, .int .i64 y0.Hop, .bool y0.Src.V6, .int .u64 y0.Src.Hi, .int .u64 y0.Src.Lo, .bool y0.Dst.V6, .int .u64 y0.Dst.Hi, .int .u64 y0.Dst.Lo]⟩] [] = some (rx123 x) := (dV_eq (uvipsix_Head_c _)).trans (ofG_eq hx)
def s123 (g : ipsix_Head → Option Bool) : Summ := ⟨[.v], r123 g⟩
theorem r123_eq {g : ipsix_Head → Option Bool} {y0 : ipsix_Head} {x : Bool} (hx : g y0 = some x) : (s123 g).run [.agg ⟨[.int .i64 y0.Class, .int .i64 y0.Label, .int .i64 y0.Next, .int .i64 y0.Hop, .bool y0.Src.V6, .int .u64 y0.Src.Hi, .int .u64 y0.Src.Lo, .bool y0.Dst.V6, .int .u64 y0.Dst.Hi, .int .u64 y0.Dst.Lo]⟩] [] = some (rx123 x) := r123_c hx
abbrev sums123 : List (Nat × Summ) := []
theorem leads123 (hS : SumsOK Try.prog (aget (sums123))) (ha0 : ipsix_Head) (res : Bool) (h : ipsix_Head_mayF ha0 = some res) :
    Leads Try.prog 123 0 ⟨⟨123, 42, [(0, .agg ⟨[.int .i64 ha0.Class, .int .i64 ha0.Label, .int .i64 ha0.Next, .int .i64 ha0.Hop, .bool ha0.Src.V6, .int .u64 ha0.Src.Hi, .int .u64 ha0.Src.Lo, .bool ha0.Dst.V6, .int .u64 ha0.Dst.Hi, .int .u64 ha0.Dst.Lo]⟩)], [.code k123_22], [], false, none⟩, [], [], 0⟩ (fun v H _ => Res 0 (rx123 res) v H) := by
  unfold ipsix_Head_mayF at h
  refine ev_ok tab_ok hS true 3000 ?_
  conv => whnf
  refine ev_ok tab_ok hS true 3000 ?_
  conv => whnf
  refine br.h h ?_ ?_ ?_
  · rfl
  · clear h; intro hb h; conv => whnf
    all_goals (cases h; exact Res.z rfl rfl rfl)
  clear h; intro hb h; conv => whnf
  refine br.h h ?_ ?_ ?_
  · rfl
  · clear h; intro hb h; conv => whnf
    all_goals (cases h; exact Res.z rfl rfl rfl)
  clear h; intro hb h; conv => whnf
  refine ev_ok tab_ok hS true 3000 ?_
  conv => whnf
  refine br.h h ?_ ?_ ?_
  · rfl
  · clear h; intro hb h; conv => whnf
    all_goals (cases h; exact Res.z rfl rfl rfl)
  clear h; intro hb h; conv => whnf
  refine br.h h ?_ ?_ ?_
  · rfl
  · clear h; intro hb h; conv => whnf
    all_goals (cases h; exact Res.z rfl rfl rfl)
  clear h; intro hb h; conv => whnf
  refine ev_ok tab_ok hS true 3000 ?_
  conv => whnf
  refine br.h h ?_ ?_ ?_
  · rfl
  · clear h; intro hb h; conv => whnf
    all_goals (cases h; exact Res.z rfl rfl rfl)
  clear h; intro hb h; conv => whnf
  refine br.h h ?_ ?_ ?_
  · rfl
  · clear h; intro hb h; conv => whnf
    all_goals (cases h; exact Res.z rfl rfl rfl)
  clear h; intro hb h; conv => whnf
  refine ev_ok tab_ok hS true 3000 ?_
  conv => whnf
  refine br.h h ?_ ?_ ?_
  · rfl
  · clear h; intro hb h; conv => whnf
    all_goals (cases h; exact Res.z rfl rfl rfl)
  clear h; intro hb h; conv => whnf
  refine br.h h ?_ ?_ ?_
  · rfl
  · clear h; intro hb h; conv => whnf
    all_goals (cases h; exact Res.z rfl rfl rfl)
  clear h; intro hb h; conv => whnf
  refine ev_ok tab_ok hS true 3000 ?_
  conv => whnf
  refine br.h h ?_ ?_ ?_
  · rfl
  · clear h; intro hb h; conv => whnf
    all_goals (cases h; exact Res.z rfl rfl rfl)
  clear h; intro hb h; conv => whnf
  all_goals (cases h; exact Res.z rfl rfl rfl)
theorem ok123 (hS : SumsOK Try.prog (aget (sums123))) : SumOK Try.prog 123 (s123 (ipsix_Head_mayF)) := by
  refine SumOK.of_leads tab_ok (fun ar os r ha hr => ?_) ⟨Try.f123, rfl, by decide, rfl⟩
  replace hr : r123 (ipsix_Head_mayF) ar (conts os) = some r := hr
  unfold r123 at hr
  generalize hc : conts os = C at hr
  replace hr := dV.elim hr; obtain ⟨v0, l1, y0, rfl, e0, hr⟩ := hr; obtain rfl := uvipsix_Head_eq _ _ e0
  replace hr := dFin hr; obtain ⟨rfl, rfl, x, h, rfl⟩ := hr
  obtain rfl := kinds_nil hc
  exact ⟨_, rfl, leads123 hS _ x h⟩
def ipsix_Head_may : ipsix_Head → Option Bool := ipsix_Head_mayF
theorem lift123 : SumOK Try.prog 123 (s123 ipsix_Head_may) := ok123 (SumsOK.of_tab trivial)
def ipsix_PutF (addr_Put : api_Addr → Option (List UInt8)) (ipsix_Head_may : ipsix_Head → Option Bool) (octet_Put : Int → Int → Option (List UInt8)) (ha0 : ipsix_Head) (payload : List UInt8) : Option ((List UInt8) × Int) :=
  (ipsix_Head_may ha0).bind fun m =>
  cond (!m)
    (
    some (([], 1)))
    (
    cond (decide ((payload.length : Int) > 65535))
      (
      some (([], 5)))
      (
      let t := iorI .u64 1610612736 (wI .u64 ((wI .u64 ha0.Class) * 2 ^ 20))
      (octet_Put (iorI .u64 t (wI .u64 ha0.Label)) 4).bind fun p =>
      let t1 := wI .u64 ((wI .u64 (payload.length : Int)) * 2 ^ 16)
      let t2 := iorI .u64 t1 (wI .u64 ((wI .u64 ha0.Next) * 2 ^ 8))
      (octet_Put (iorI .u64 t2 (wI .u64 ha0.Hop)) 4).bind fun p1 =>
      oreq (decide (p.length + p1.length < 2 ^ 63)) <|
      (addr_Put ha0.Src).bind fun p2 =>
      oreq (decide ((p ++ p1).length + p2.length < 2 ^ 63)) <|
      (addr_Put ha0.Dst).bind fun p3 =>
      oreq (decide (((p ++ p1) ++ p2).length + p3.length < 2 ^ 63)) <|
      oreq (decide ((((p ++ p1) ++ p2) ++ p3).length + payload.length < 2 ^ 63)) <|
      some (((((p ++ p1) ++ p2) ++ p3) ++ payload, 0))))
def rx98 (x : (List UInt8) × Int) : SRes := ⟨.tuple ⟨[.string ⟨⟨x.1⟩⟩, .int .i64 x.2]⟩, [], []⟩
def r98 (g : ipsix_Head → (List UInt8) → Option ((List UInt8) × Int)) : Dec := dV uvipsix_Head fun (y0 : ipsix_Head) => dV asS fun (y1 : List UInt8) => dEnd (ofG (g y0 y1) rx98)
theorem r98_c {g : ipsix_Head → (List UInt8) → Option ((List UInt8) × Int)} {y0 : ipsix_Head} {y1 : List UInt8} {x : (List UInt8) × Int} (hx : g y0 y1 = some x) : r98 g [.agg ⟨[.int .i64 y0.Class, .int .i64 y0.Label, .int .i64 y0.Next, .int .i64 y0.Hop, .bool y0.Src.V6, .int .u64 y0.Src.Hi, .int .u64 y0.Src.Lo, .bool y0.Dst.V6, .int .u64 y0.Dst.Hi, .int .u64 y0.Dst.Lo]⟩, .string ⟨⟨y1⟩⟩] [] = some (rx98 x) := (dV_eq (uvipsix_Head_c _)).trans ((dV_eq (asS_c)).trans (ofG_eq hx))
def s98 (g : ipsix_Head → (List UInt8) → Option ((List UInt8) × Int)) : Summ := ⟨[.v, .v], r98 g⟩
theorem r98_eq {g : ipsix_Head → (List UInt8) → Option ((List UInt8) × Int)} {y0 : ipsix_Head} {y1 : List UInt8} {x : (List UInt8) × Int} (hx : g y0 y1 = some x) : (s98 g).run [.agg ⟨[.int .i64 y0.Class, .int .i64 y0.Label, .int .i64 y0.Next, .int .i64 y0.Hop, .bool y0.Src.V6, .int .u64 y0.Src.Hi, .int .u64 y0.Src.Lo, .bool y0.Dst.V6, .int .u64 y0.Dst.Hi, .int .u64 y0.Dst.Lo]⟩, .string ⟨⟨y1⟩⟩] [] = some (rx98 x) := r98_c hx
abbrev sums98 (addr_Put : api_Addr → Option (List UInt8)) (ipsix_Head_may : ipsix_Head → Option Bool) (octet_Put : Int → Int → Option (List UInt8)) : List (Nat × Summ) := [(78, s78 addr_Put), (123, s123 ipsix_Head_may), (62, s62 octet_Put)]
theorem leads98 (addr_Put : api_Addr → Option (List UInt8)) (ipsix_Head_may : ipsix_Head → Option Bool) (octet_Put : Int → Int → Option (List UInt8)) (hS : SumsOK Try.prog (aget (sums98 addr_Put ipsix_Head_may octet_Put))) (ha0 : ipsix_Head) (payload : List UInt8) (res : (List UInt8) × Int) (h : ipsix_PutF addr_Put ipsix_Head_may octet_Put ha0 payload = some res) :
    Leads Try.prog 98 0 ⟨⟨98, 53, [(0, .agg ⟨[.int .i64 ha0.Class, .int .i64 ha0.Label, .int .i64 ha0.Next, .int .i64 ha0.Hop, .bool ha0.Src.V6, .int .u64 ha0.Src.Hi, .int .u64 ha0.Src.Lo, .bool ha0.Dst.V6, .int .u64 ha0.Dst.Hi, .int .u64 ha0.Dst.Lo]⟩), (1, .string ⟨⟨payload⟩⟩)], [.code k98_19], [], false, none⟩, [], [], 0⟩ (fun v H _ => Res 0 (rx98 res) v H) := by
  unfold ipsix_PutF at h
  refine ev_ok tab_ok hS true 3000 ?_
  conv => whnf
  replace h := obind.elim h; obtain ⟨m, hy, h⟩ := h
  refine sumK.q rfl rfl (r123_eq hy) rfl rfl rfl ?_
  conv => whnf
  refine br.h h ?_ ?_ ?_
  · rfl
  · clear h; intro hb h; conv => whnf
    all_goals (cases h; exact Res.z rfl rfl rfl)
  clear h; intro hb h; conv => whnf
  refine br.h h ?_ ?_ ?_
  · rfl
  · clear h; intro hb h; conv => whnf
    all_goals (cases h; exact Res.z rfl rfl rfl)
  clear h; intro hb h; conv => whnf
  let t : Int := iorI .u64 1610612736 (wI .u64 ((wI .u64 ha0.Class) * 2 ^ 20))
  replace h := obind.elim h; obtain ⟨p, hy, h⟩ := h
  refine sumK.q rfl rfl (r62_eq hy) rfl rfl rfl ?_
  conv => whnf
  let t1 : Int := wI .u64 ((wI .u64 (payload.length : Int)) * 2 ^ 16)
  let t2 : Int := iorI .u64 t1 (wI .u64 ((wI .u64 ha0.Next) * 2 ^ 8))
  replace h := obind.elim h; obtain ⟨p1, hy, h⟩ := h
  refine sumK.q rfl rfl (r62_eq hy) rfl rfl rfl ?_
  conv => whnf
  replace h := oreq.elim h; obtain ⟨hb, h⟩ := h
  first | (refine req.intro hb ?_; conv => whnf) | skip
  replace h := obind.elim h; obtain ⟨p2, hy, h⟩ := h
  refine sumK.q rfl rfl (r78_eq hy) rfl rfl rfl ?_
  conv => whnf
  replace h := oreq.elim h; obtain ⟨hb, h⟩ := h
  first | (refine req.intro hb ?_; conv => whnf) | skip
  replace h := obind.elim h; obtain ⟨p3, hy, h⟩ := h
  refine sumK.q rfl rfl (r78_eq hy) rfl rfl rfl ?_
  conv => whnf
  replace h := oreq.elim h; obtain ⟨hb, h⟩ := h
  first | (refine req.intro hb ?_; conv => whnf) | skip
  replace h := oreq.elim h; obtain ⟨hb, h⟩ := h
  first | (refine req.intro hb ?_; conv => whnf) | skip
  all_goals (cases h; exact Res.z rfl rfl rfl)
theorem ok98 (addr_Put : api_Addr → Option (List UInt8)) (ipsix_Head_may : ipsix_Head → Option Bool) (octet_Put : Int → Int → Option (List UInt8)) (hS : SumsOK Try.prog (aget (sums98 addr_Put ipsix_Head_may octet_Put))) : SumOK Try.prog 98 (s98 (ipsix_PutF addr_Put ipsix_Head_may octet_Put)) := by
  refine SumOK.of_leads tab_ok (fun ar os r ha hr => ?_) ⟨Try.f98, rfl, by decide, rfl⟩
  replace hr : r98 (ipsix_PutF addr_Put ipsix_Head_may octet_Put) ar (conts os) = some r := hr
  unfold r98 at hr
  generalize hc : conts os = C at hr
  replace hr := dV.elim hr; obtain ⟨v0, l1, y0, rfl, e0, hr⟩ := hr; obtain rfl := uvipsix_Head_eq _ _ e0
  replace hr := dV.elim hr; obtain ⟨v1, l2, y1, rfl, e1, hr⟩ := hr; obtain rfl := asS_eq _ _ e1
  replace hr := dFin hr; obtain ⟨rfl, rfl, x, h, rfl⟩ := hr
  obtain rfl := kinds_nil hc
  exact ⟨_, rfl, leads98 addr_Put ipsix_Head_may octet_Put hS _ _ x h⟩
def ipsix_Put : ipsix_Head → (List UInt8) → Option ((List UInt8) × Int) := ipsix_PutF addr_Put ipsix_Head_may octet_Put
theorem lift98 : SumOK Try.prog 98 (s98 ipsix_Put) := ok98 addr_Put ipsix_Head_may octet_Put (SumsOK.of_tab ⟨lift78, lift123, lift62, trivial⟩)
def R06_inF (n : Int) (most : Int) : Option Bool :=
  cond (decide (n ≥ 0))
    (
    some (decide (n ≤ most)))
    (
    some (false))
def rx132 (x : Bool) : SRes := ⟨.bool x, [], []⟩
def r132 (g : Int → Int → Option Bool) : Dec := dV (asI .i64) fun (y0 : Int) => dV (asI .i64) fun (y1 : Int) => dEnd (ofG (g y0 y1) rx132)
theorem r132_c {g : Int → Int → Option Bool} {y0 : Int} {y1 : Int} {x : Bool} (hx : g y0 y1 = some x) : r132 g [.int .i64 y0, .int .i64 y1] [] = some (rx132 x) := (dV_eq (asI_c _)).trans ((dV_eq (asI_c _)).trans (ofG_eq hx))
def s132 (g : Int → Int → Option Bool) : Summ := ⟨[.v, .v], r132 g⟩
theorem r132_eq {g : Int → Int → Option Bool} {y0 : Int} {y1 : Int} {x : Bool} (hx : g y0 y1 = some x) : (s132 g).run [.int .i64 y0, .int .i64 y1] [] = some (rx132 x) := r132_c hx
abbrev sums132 : List (Nat × Summ) := []
theorem leads132 (hS : SumsOK Try.prog (aget (sums132))) (n : Int) (most : Int) (res : Bool) (h : R06_inF n most = some res) :
    Leads Try.prog 132 0 ⟨⟨132, 12, [(0, .int .i64 n), (1, .int .i64 most)], [.code k132_3], [], false, none⟩, [], [], 0⟩ (fun v H _ => Res 0 (rx132 res) v H) := by
  unfold R06_inF at h
  refine ev_ok tab_ok hS true 3000 ?_
  conv => whnf
  refine br.h h ?_ ?_ ?_
  · rfl
  · clear h; intro hb h; conv => whnf
    all_goals (cases h; exact Res.z rfl rfl rfl)
  clear h; intro hb h; conv => whnf
  all_goals (cases h; exact Res.z rfl rfl rfl)
theorem ok132 (hS : SumsOK Try.prog (aget (sums132))) : SumOK Try.prog 132 (s132 (R06_inF)) := by
  refine SumOK.of_leads tab_ok (fun ar os r ha hr => ?_) ⟨Try.f132, rfl, by decide, rfl⟩
  replace hr : r132 (R06_inF) ar (conts os) = some r := hr
  unfold r132 at hr
  generalize hc : conts os = C at hr
  replace hr := dV.elim hr; obtain ⟨v0, l1, y0, rfl, e0, hr⟩ := hr; obtain rfl := asI_eq _ _ _ e0
  replace hr := dV.elim hr; obtain ⟨v1, l2, y1, rfl, e1, hr⟩ := hr; obtain rfl := asI_eq _ _ _ e1
  replace hr := dFin hr; obtain ⟨rfl, rfl, x, h, rfl⟩ := hr
  obtain rfl := kinds_nil hc
  exact ⟨_, rfl, leads132 hS _ _ x h⟩
def R06_in : Int → Int → Option Bool := R06_inF
theorem lift132 : SumOK Try.prog 132 (s132 R06_in) := ok132 (SumsOK.of_tab trivial)
def R06_RightF (R06_in : Int → Int → Option Bool) (ha0 : ipsix_Head) : Option Bool :=
  (R06_in ha0.Class 255).bind fun i =>
  cond (i)
    (
    (R06_in ha0.Label 1048575).bind fun i1 =>
    cond (i1)
      (
      (R06_in ha0.Next 255).bind fun i2 =>
      cond (i2)
        (
        (R06_in ha0.Hop 255).bind fun i3 =>
        cond (i3)
          (
          cond (ha0.Src.V6)
            (
            some (ha0.Dst.V6))
            (
            some (false)))
          (
          some (false)))
        (
        some (false)))
      (
      some (false)))
    (
    some (false))
def rx124 (x : Bool) : SRes := ⟨.bool x, [], []⟩
def r124 (g : ipsix_Head → Option Bool) : Dec := dV uvipsix_Head fun (y0 : ipsix_Head) => dEnd (ofG (g y0) rx124)
theorem r124_c {g : ipsix_Head → Option Bool} {y0 : ipsix_Head} {x : Bool} (hx : g y0 = some x) : r124 g [.agg ⟨[.int .i64 y0.Class, .int .i64 y0.Label, .int .i64 y0.Next, .int .i64 y0.Hop, .bool y0.Src.V6, .int .u64 y0.Src.Hi, .int .u64 y0.Src.Lo, .bool y0.Dst.V6, .int .u64 y0.Dst.Hi, .int .u64 y0.Dst.Lo]⟩] [] = some (rx124 x) := (dV_eq (uvipsix_Head_c _)).trans (ofG_eq hx)
def s124 (g : ipsix_Head → Option Bool) : Summ := ⟨[.v], r124 g⟩
theorem r124_eq {g : ipsix_Head → Option Bool} {y0 : ipsix_Head} {x : Bool} (hx : g y0 = some x) : (s124 g).run [.agg ⟨[.int .i64 y0.Class, .int .i64 y0.Label, .int .i64 y0.Next, .int .i64 y0.Hop, .bool y0.Src.V6, .int .u64 y0.Src.Hi, .int .u64 y0.Src.Lo, .bool y0.Dst.V6, .int .u64 y0.Dst.Hi, .int .u64 y0.Dst.Lo]⟩] [] = some (rx124 x) := r124_c hx
abbrev sums124 (R06_in : Int → Int → Option Bool) : List (Nat × Summ) := [(132, s132 R06_in)]
theorem leads124 (R06_in : Int → Int → Option Bool) (hS : SumsOK Try.prog (aget (sums124 R06_in))) (ha0 : ipsix_Head) (res : Bool) (h : R06_RightF R06_in ha0 = some res) :
    Leads Try.prog 124 0 ⟨⟨124, 31, [(0, .agg ⟨[.int .i64 ha0.Class, .int .i64 ha0.Label, .int .i64 ha0.Next, .int .i64 ha0.Hop, .bool ha0.Src.V6, .int .u64 ha0.Src.Hi, .int .u64 ha0.Src.Lo, .bool ha0.Dst.V6, .int .u64 ha0.Dst.Hi, .int .u64 ha0.Dst.Lo]⟩)], [.code k124_3], [], false, none⟩, [], [], 0⟩ (fun v H _ => Res 0 (rx124 res) v H) := by
  unfold R06_RightF at h
  refine ev_ok tab_ok hS true 3000 ?_
  conv => whnf
  replace h := obind.elim h; obtain ⟨i, hy, h⟩ := h
  refine sumK.q rfl rfl (r132_eq hy) rfl rfl rfl ?_
  conv => whnf
  refine br.h2 h ?_ ?_ ?_
  · rfl
  · clear h; intro hb h; conv => whnf
    all_goals (cases h; exact Res.z rfl rfl rfl)
  clear h; intro hb h; conv => whnf
  replace h := obind.elim h; obtain ⟨i1, hy, h⟩ := h
  refine sumK.q rfl rfl (r132_eq hy) rfl rfl rfl ?_
  conv => whnf
  refine br.h2 h ?_ ?_ ?_
  · rfl
  · clear h; intro hb h; conv => whnf
    all_goals (cases h; exact Res.z rfl rfl rfl)
  clear h; intro hb h; conv => whnf
  replace h := obind.elim h; obtain ⟨i2, hy, h⟩ := h
  refine sumK.q rfl rfl (r132_eq hy) rfl rfl rfl ?_
  conv => whnf
  refine br.h2 h ?_ ?_ ?_
  · rfl
  · clear h; intro hb h; conv => whnf
    all_goals (cases h; exact Res.z rfl rfl rfl)
  clear h; intro hb h; conv => whnf
  replace h := obind.elim h; obtain ⟨i3, hy, h⟩ := h
  refine sumK.q rfl rfl (r132_eq hy) rfl rfl rfl ?_
  conv => whnf
  refine br.h2 h ?_ ?_ ?_
  · rfl
  · clear h; intro hb h; conv => whnf
    all_goals (cases h; exact Res.z rfl rfl rfl)
  clear h; intro hb h; conv => whnf
  refine br.h h ?_ ?_ ?_
  · rfl
  · clear h; intro hb h; conv => whnf
    all_goals (cases h; exact Res.z rfl rfl rfl)
  clear h; intro hb h; conv => whnf
  all_goals (cases h; exact Res.z rfl rfl rfl)
theorem ok124 (R06_in : Int → Int → Option Bool) (hS : SumsOK Try.prog (aget (sums124 R06_in))) : SumOK Try.prog 124 (s124 (R06_RightF R06_in)) := by
  refine SumOK.of_leads tab_ok (fun ar os r ha hr => ?_) ⟨Try.f124, rfl, by decide, rfl⟩
  replace hr : r124 (R06_RightF R06_in) ar (conts os) = some r := hr
  unfold r124 at hr
  generalize hc : conts os = C at hr
  replace hr := dV.elim hr; obtain ⟨v0, l1, y0, rfl, e0, hr⟩ := hr; obtain rfl := uvipsix_Head_eq _ _ e0
  replace hr := dFin hr; obtain ⟨rfl, rfl, x, h, rfl⟩ := hr
  obtain rfl := kinds_nil hc
  exact ⟨_, rfl, leads124 R06_in hS _ x h⟩
def R06_Right : ipsix_Head → Option Bool := R06_RightF R06_in
theorem lift124 : SumOK Try.prog 124 (s124 R06_Right) := ok124 R06_in (SumsOK.of_tab ⟨lift132, trivial⟩)
def R06_numF (R02_Put : Int → Int → Option (List UInt8)) (n : Int) (k : Int) : Option (List UInt8) :=
  (R02_Put (wI .u64 n) k).bind fun p =>
  some (p)
def rx125 (x : List UInt8) : SRes := ⟨.string ⟨⟨x⟩⟩, [], []⟩
def r125 (g : Int → Int → Option (List UInt8)) : Dec := dV (asI .i64) fun (y0 : Int) => dV (asI .i64) fun (y1 : Int) => dEnd (ofG (g y0 y1) rx125)
theorem r125_c {g : Int → Int → Option (List UInt8)} {y0 : Int} {y1 : Int} {x : List UInt8} (hx : g y0 y1 = some x) : r125 g [.int .i64 y0, .int .i64 y1] [] = some (rx125 x) := (dV_eq (asI_c _)).trans ((dV_eq (asI_c _)).trans (ofG_eq hx))
def s125 (g : Int → Int → Option (List UInt8)) : Summ := ⟨[.v, .v], r125 g⟩
theorem r125_eq {g : Int → Int → Option (List UInt8)} {y0 : Int} {y1 : Int} {x : List UInt8} (hx : g y0 y1 = some x) : (s125 g).run [.int .i64 y0, .int .i64 y1] [] = some (rx125 x) := r125_c hx
abbrev sums125 (R02_Put : Int → Int → Option (List UInt8)) : List (Nat × Summ) := [(67, s67 R02_Put)]
theorem leads125 (R02_Put : Int → Int → Option (List UInt8)) (hS : SumsOK Try.prog (aget (sums125 R02_Put))) (n : Int) (k : Int) (res : List UInt8) (h : R06_numF R02_Put n k = some res) :
    Leads Try.prog 125 0 ⟨⟨125, 9, [(0, .int .i64 n), (1, .int .i64 k)], [.code k125_3], [], false, none⟩, [], [], 0⟩ (fun v H _ => Res 0 (rx125 res) v H) := by
  unfold R06_numF at h
  refine ev_ok tab_ok hS true 3000 ?_
  conv => whnf
  replace h := obind.elim h; obtain ⟨p, hy, h⟩ := h
  refine sumK.q rfl rfl (r67_eq hy) rfl rfl rfl ?_
  conv => whnf
  all_goals (cases h; exact Res.z rfl rfl rfl)
theorem ok125 (R02_Put : Int → Int → Option (List UInt8)) (hS : SumsOK Try.prog (aget (sums125 R02_Put))) : SumOK Try.prog 125 (s125 (R06_numF R02_Put)) := by
  refine SumOK.of_leads tab_ok (fun ar os r ha hr => ?_) ⟨Try.f125, rfl, by decide, rfl⟩
  replace hr : r125 (R06_numF R02_Put) ar (conts os) = some r := hr
  unfold r125 at hr
  generalize hc : conts os = C at hr
  replace hr := dV.elim hr; obtain ⟨v0, l1, y0, rfl, e0, hr⟩ := hr; obtain rfl := asI_eq _ _ _ e0
  replace hr := dV.elim hr; obtain ⟨v1, l2, y1, rfl, e1, hr⟩ := hr; obtain rfl := asI_eq _ _ _ e1
  replace hr := dFin hr; obtain ⟨rfl, rfl, x, h, rfl⟩ := hr
  obtain rfl := kinds_nil hc
  exact ⟨_, rfl, leads125 R02_Put hS _ _ x h⟩
def R06_num : Int → Int → Option (List UInt8) := R06_numF R02_Put
theorem lift125 : SumOK Try.prog 125 (s125 R06_num) := ok125 R02_Put (SumsOK.of_tab ⟨lift67, trivial⟩)
def R06_PutF (R04_Put : api_Addr → Option (List UInt8)) (R06_Right : ipsix_Head → Option Bool) (R06_num : Int → Int → Option (List UInt8)) (ha0 : ipsix_Head) (payload : List UInt8) : Option ((List UInt8) × Int) :=
  (R06_Right ha0).bind fun xr =>
  cond (!xr)
    (
    some (([], 1)))
    (
    cond (decide ((payload.length : Int) > 65535))
      (
      some (([], 5)))
      (
      let t := wI .i64 (1610612736 + (wI .i64 (ha0.Class * 1048576)))
      (R06_num (wI .i64 (t + ha0.Label)) 4).bind fun n =>
      (R06_num (payload.length : Int) 2).bind fun n1 =>
      oreq (decide (n.length + n1.length < 2 ^ 63)) <|
      (R06_num ha0.Next 1).bind fun n2 =>
      oreq (decide ((n ++ n1).length + n2.length < 2 ^ 63)) <|
      (R06_num ha0.Hop 1).bind fun n3 =>
      oreq (decide (((n ++ n1) ++ n2).length + n3.length < 2 ^ 63)) <|
      (R04_Put ha0.Src).bind fun p =>
      oreq (decide ((((n ++ n1) ++ n2) ++ n3).length + p.length < 2 ^ 63)) <|
      (R04_Put ha0.Dst).bind fun p1 =>
      oreq (decide (((((n ++ n1) ++ n2) ++ n3) ++ p).length + p1.length < 2 ^ 63)) <|
      oreq (decide ((((((n ++ n1) ++ n2) ++ n3) ++ p) ++ p1).length + payload.length < 2 ^ 63)) <|
      let t1 := (((((n ++ n1) ++ n2) ++ n3) ++ p) ++ p1) ++ payload
      some ((t1, 0))))
def rx99 (x : (List UInt8) × Int) : SRes := ⟨.tuple ⟨[.string ⟨⟨x.1⟩⟩, .int .i64 x.2]⟩, [], []⟩
def r99 (g : ipsix_Head → (List UInt8) → Option ((List UInt8) × Int)) : Dec := dV uvipsix_Head fun (y0 : ipsix_Head) => dV asS fun (y1 : List UInt8) => dEnd (ofG (g y0 y1) rx99)
theorem r99_c {g : ipsix_Head → (List UInt8) → Option ((List UInt8) × Int)} {y0 : ipsix_Head} {y1 : List UInt8} {x : (List UInt8) × Int} (hx : g y0 y1 = some x) : r99 g [.agg ⟨[.int .i64 y0.Class, .int .i64 y0.Label, .int .i64 y0.Next, .int .i64 y0.Hop, .bool y0.Src.V6, .int .u64 y0.Src.Hi, .int .u64 y0.Src.Lo, .bool y0.Dst.V6, .int .u64 y0.Dst.Hi, .int .u64 y0.Dst.Lo]⟩, .string ⟨⟨y1⟩⟩] [] = some (rx99 x) := (dV_eq (uvipsix_Head_c _)).trans ((dV_eq (asS_c)).trans (ofG_eq hx))
def s99 (g : ipsix_Head → (List UInt8) → Option ((List UInt8) × Int)) : Summ := ⟨[.v, .v], r99 g⟩
theorem r99_eq {g : ipsix_Head → (List UInt8) → Option ((List UInt8) × Int)} {y0 : ipsix_Head} {y1 : List UInt8} {x : (List UInt8) × Int} (hx : g y0 y1 = some x) : (s99 g).run [.agg ⟨[.int .i64 y0.Class, .int .i64 y0.Label, .int .i64 y0.Next, .int .i64 y0.Hop, .bool y0.Src.V6, .int .u64 y0.Src.Hi, .int .u64 y0.Src.Lo, .bool y0.Dst.V6, .int .u64 y0.Dst.Hi, .int .u64 y0.Dst.Lo]⟩, .string ⟨⟨y1⟩⟩] [] = some (rx99 x) := r99_c hx
abbrev sums99 (R04_Put : api_Addr → Option (List UInt8)) (R06_Right : ipsix_Head → Option Bool) (R06_num : Int → Int → Option (List UInt8)) : List (Nat × Summ) := [(81, s81 R04_Put), (124, s124 R06_Right), (125, s125 R06_num)]
theorem leads99 (R04_Put : api_Addr → Option (List UInt8)) (R06_Right : ipsix_Head → Option Bool) (R06_num : Int → Int → Option (List UInt8)) (hS : SumsOK Try.prog (aget (sums99 R04_Put R06_Right R06_num))) (ha0 : ipsix_Head) (payload : List UInt8) (res : (List UInt8) × Int) (h : R06_PutF R04_Put R06_Right R06_num ha0 payload = some res) :
    Leads Try.prog 99 0 ⟨⟨99, 42, [(0, .agg ⟨[.int .i64 ha0.Class, .int .i64 ha0.Label, .int .i64 ha0.Next, .int .i64 ha0.Hop, .bool ha0.Src.V6, .int .u64 ha0.Src.Hi, .int .u64 ha0.Src.Lo, .bool ha0.Dst.V6, .int .u64 ha0.Dst.Hi, .int .u64 ha0.Dst.Lo]⟩), (1, .string ⟨⟨payload⟩⟩)], [.code k99_15], [], false, none⟩, [], [], 0⟩ (fun v H _ => Res 0 (rx99 res) v H) := by
  unfold R06_PutF at h
  refine ev_ok tab_ok hS true 3000 ?_
  conv => whnf
  replace h := obind.elim h; obtain ⟨xr, hy, h⟩ := h
  refine sumK.q rfl rfl (r124_eq hy) rfl rfl rfl ?_
  conv => whnf
  refine br.h h ?_ ?_ ?_
  · rfl
  · clear h; intro hb h; conv => whnf
    all_goals (cases h; exact Res.z rfl rfl rfl)
  clear h; intro hb h; conv => whnf
  refine br.h h ?_ ?_ ?_
  · rfl
  · clear h; intro hb h; conv => whnf
    all_goals (cases h; exact Res.z rfl rfl rfl)
  clear h; intro hb h; conv => whnf
  let t : Int := wI .i64 (1610612736 + (wI .i64 (ha0.Class * 1048576)))
  replace h := obind.elim h; obtain ⟨n, hy, h⟩ := h
  refine sumK.q rfl rfl (r125_eq hy) rfl rfl rfl ?_
  conv => whnf
  replace h := obind.elim h; obtain ⟨n1, hy, h⟩ := h
  refine sumK.q rfl rfl (r125_eq hy) rfl rfl rfl ?_
  conv => whnf
  replace h := oreq.elim h; obtain ⟨hb, h⟩ := h
  first | (refine req.intro hb ?_; conv => whnf) | skip
  replace h := obind.elim h; obtain ⟨n2, hy, h⟩ := h
  refine sumK.q rfl rfl (r125_eq hy) rfl rfl rfl ?_
  conv => whnf
  replace h := oreq.elim h; obtain ⟨hb, h⟩ := h
  first | (refine req.intro hb ?_; conv => whnf) | skip
  replace h := obind.elim h; obtain ⟨n3, hy, h⟩ := h
  refine sumK.q rfl rfl (r125_eq hy) rfl rfl rfl ?_
  conv => whnf
  replace h := oreq.elim h; obtain ⟨hb, h⟩ := h
  first | (refine req.intro hb ?_; conv => whnf) | skip
  replace h := obind.elim h; obtain ⟨p, hy, h⟩ := h
  refine sumK.q rfl rfl (r81_eq hy) rfl rfl rfl ?_
  conv => whnf
  replace h := oreq.elim h; obtain ⟨hb, h⟩ := h
  first | (refine req.intro hb ?_; conv => whnf) | skip
  replace h := obind.elim h; obtain ⟨p1, hy, h⟩ := h
  refine sumK.q rfl rfl (r81_eq hy) rfl rfl rfl ?_
  conv => whnf
  replace h := oreq.elim h; obtain ⟨hb, h⟩ := h
  first | (refine req.intro hb ?_; conv => whnf) | skip
  replace h := oreq.elim h; obtain ⟨hb, h⟩ := h
  first | (refine req.intro hb ?_; conv => whnf) | skip
  let t1 : List UInt8 := (((((n ++ n1) ++ n2) ++ n3) ++ p) ++ p1) ++ payload
  all_goals (cases h; exact Res.z rfl rfl rfl)
theorem ok99 (R04_Put : api_Addr → Option (List UInt8)) (R06_Right : ipsix_Head → Option Bool) (R06_num : Int → Int → Option (List UInt8)) (hS : SumsOK Try.prog (aget (sums99 R04_Put R06_Right R06_num))) : SumOK Try.prog 99 (s99 (R06_PutF R04_Put R06_Right R06_num)) := by
  refine SumOK.of_leads tab_ok (fun ar os r ha hr => ?_) ⟨Try.f99, rfl, by decide, rfl⟩
  replace hr : r99 (R06_PutF R04_Put R06_Right R06_num) ar (conts os) = some r := hr
  unfold r99 at hr
  generalize hc : conts os = C at hr
  replace hr := dV.elim hr; obtain ⟨v0, l1, y0, rfl, e0, hr⟩ := hr; obtain rfl := uvipsix_Head_eq _ _ e0
  replace hr := dV.elim hr; obtain ⟨v1, l2, y1, rfl, e1, hr⟩ := hr; obtain rfl := asS_eq _ _ e1
  replace hr := dFin hr; obtain ⟨rfl, rfl, x, h, rfl⟩ := hr
  obtain rfl := kinds_nil hc
  exact ⟨_, rfl, leads99 R04_Put R06_Right R06_num hS _ _ x h⟩
def R06_Put : ipsix_Head → (List UInt8) → Option ((List UInt8) × Int) := R06_PutF R04_Put R06_Right R06_num
theorem lift99 : SumOK Try.prog 99 (s99 R06_Put) := ok99 R04_Put R06_Right R06_num (SumsOK.of_tab ⟨lift81, lift124, lift125, trivial⟩)
def addr_GetF (octet_Get : (List UInt8) → Int → Int → Option (Int × Bool)) (s : List UInt8) : Option (api_Addr × Bool) :=
  cond ((s.length : Int) == 4)
    (
    (octet_Get s 0 4).bind fun xg =>
    some ((api_Addr.mk false 0 xg.1, true)))
    (
    cond ((s.length : Int) == 16)
      (
      (octet_Get s 0 8).bind fun xg1 =>
      (octet_Get s 8 8).bind fun xg2 =>
      some ((api_Addr.mk true xg1.1 xg2.1, true)))
      (
      some ((api_Addr.mk false 0 0, false))))
def rx102 (x : api_Addr × Bool) : SRes := ⟨.tuple ⟨[.agg ⟨[.bool x.1.V6, .int .u64 x.1.Hi, .int .u64 x.1.Lo]⟩, .bool x.2]⟩, [], []⟩
def r102 (g : (List UInt8) → Option (api_Addr × Bool)) : Dec := dV asS fun (y0 : List UInt8) => dEnd (ofG (g y0) rx102)
theorem r102_c {g : (List UInt8) → Option (api_Addr × Bool)} {y0 : List UInt8} {x : api_Addr × Bool} (hx : g y0 = some x) : r102 g [.string ⟨⟨y0⟩⟩] [] = some (rx102 x) := (dV_eq (asS_c)).trans (ofG_eq hx)
def s102 (g : (List UInt8) → Option (api_Addr × Bool)) : Summ := ⟨[.v], r102 g⟩
theorem r102_eq {g : (List UInt8) → Option (api_Addr × Bool)} {y0 : List UInt8} {x : api_Addr × Bool} (hx : g y0 = some x) : (s102 g).run [.string ⟨⟨y0⟩⟩] [] = some (rx102 x) := r102_c hx
abbrev sums102 (octet_Get : (List UInt8) → Int → Int → Option (Int × Bool)) : List (Nat × Summ) := [(101, s101 octet_Get)]
theorem leads102 (octet_Get : (List UInt8) → Int → Int → Option (Int × Bool)) (hS : SumsOK Try.prog (aget (sums102 octet_Get))) (s : List UInt8) (res : api_Addr × Bool) (h : addr_GetF octet_Get s = some res) :
    Leads Try.prog 102 0 ⟨⟨102, 35, [(0, .string ⟨⟨s⟩⟩)], [.code k102_25], [], false, none⟩, [], [], 0⟩ (fun v H _ => Res 0 (rx102 res) v H) := by
  unfold addr_GetF at h
  refine ev_ok tab_ok hS true 3000 ?_
  conv => whnf
  refine br.h h ?_ ?_ ?_
  · rfl
  · clear h; intro hb h; conv => whnf
    replace h := obind.elim h; obtain ⟨xg, hy, h⟩ := h
    refine sumK.q rfl rfl (r101_eq hy) rfl rfl rfl ?_
    conv => whnf
    all_goals (cases h; exact Res.z rfl rfl rfl)
  clear h; intro hb h; conv => whnf
  refine br.h2 h ?_ ?_ ?_
  · rfl
  · clear h; intro hb h; conv => whnf
    all_goals (cases h; exact Res.z rfl rfl rfl)
  clear h; intro hb h; conv => whnf
  replace h := obind.elim h; obtain ⟨xg1, hy, h⟩ := h
  refine sumK.q rfl rfl (r101_eq hy) rfl rfl rfl ?_
  conv => whnf
  replace h := obind.elim h; obtain ⟨xg2, hy, h⟩ := h
  refine sumK.q rfl rfl (r101_eq hy) rfl rfl rfl ?_
  conv => whnf
  all_goals (cases h; exact Res.z rfl rfl rfl)
theorem ok102 (octet_Get : (List UInt8) → Int → Int → Option (Int × Bool)) (hS : SumsOK Try.prog (aget (sums102 octet_Get))) : SumOK Try.prog 102 (s102 (addr_GetF octet_Get)) := by
  refine SumOK.of_leads tab_ok (fun ar os r ha hr => ?_) ⟨Try.f102, rfl, by decide, rfl⟩
  replace hr : r102 (addr_GetF octet_Get) ar (conts os) = some r := hr
  unfold r102 at hr
  generalize hc : conts os = C at hr
  replace hr := dV.elim hr; obtain ⟨v0, l1, y0, rfl, e0, hr⟩ := hr; obtain rfl := asS_eq _ _ e0
  replace hr := dFin hr; obtain ⟨rfl, rfl, x, h, rfl⟩ := hr
  obtain rfl := kinds_nil hc
  exact ⟨_, rfl, leads102 octet_Get hS _ x h⟩
def addr_Get : (List UInt8) → Option (api_Addr × Bool) := addr_GetF octet_Get
theorem lift102 : SumOK Try.prog 102 (s102 addr_Get) := ok102 octet_Get (SumsOK.of_tab ⟨lift101, trivial⟩)
def R04_GetF (R02_Get : (List UInt8) → Int → Int → Option (Int × Bool)) (s : List UInt8) : Option (api_Addr × Bool) :=
  cond ((s.length : Int) == 4)
    (
    (R02_Get s 0 4).bind fun xg =>
    some ((api_Addr.mk false 0 xg.1, true)))
    (
    cond ((s.length : Int) == 16)
      (
      (R02_Get s 0 8).bind fun xg1 =>
      (R02_Get s 8 8).bind fun xg2 =>
      some ((api_Addr.mk true xg1.1 xg2.1, true)))
      (
      some ((api_Addr.mk false 0 0, false))))
def rx84 (x : api_Addr × Bool) : SRes := ⟨.tuple ⟨[.agg ⟨[.bool x.1.V6, .int .u64 x.1.Hi, .int .u64 x.1.Lo]⟩, .bool x.2]⟩, [], []⟩
def r84 (g : (List UInt8) → Option (api_Addr × Bool)) : Dec := dV asS fun (y0 : List UInt8) => dEnd (ofG (g y0) rx84)
theorem r84_c {g : (List UInt8) → Option (api_Addr × Bool)} {y0 : List UInt8} {x : api_Addr × Bool} (hx : g y0 = some x) : r84 g [.string ⟨⟨y0⟩⟩] [] = some (rx84 x) := (dV_eq (asS_c)).trans (ofG_eq hx)
def s84 (g : (List UInt8) → Option (api_Addr × Bool)) : Summ := ⟨[.v], r84 g⟩
theorem r84_eq {g : (List UInt8) → Option (api_Addr × Bool)} {y0 : List UInt8} {x : api_Addr × Bool} (hx : g y0 = some x) : (s84 g).run [.string ⟨⟨y0⟩⟩] [] = some (rx84 x) := r84_c hx
abbrev sums84 (R02_Get : (List UInt8) → Int → Int → Option (Int × Bool)) : List (Nat × Summ) := [(114, s114 R02_Get)]
theorem leads84 (R02_Get : (List UInt8) → Int → Int → Option (Int × Bool)) (hS : SumsOK Try.prog (aget (sums84 R02_Get))) (s : List UInt8) (res : api_Addr × Bool) (h : R04_GetF R02_Get s = some res) :
    Leads Try.prog 84 0 ⟨⟨84, 37, [(0, .string ⟨⟨s⟩⟩)], [.code k84_21], [], false, none⟩, [], [], 0⟩ (fun v H _ => Res 0 (rx84 res) v H) := by
  unfold R04_GetF at h
  refine ev_ok tab_ok hS true 3000 ?_
  conv => whnf
  refine br.h h ?_ ?_ ?_
  · rfl
  · clear h; intro hb h; conv => whnf
    replace h := obind.elim h; obtain ⟨xg, hy, h⟩ := h
    refine sumK.q rfl rfl (r114_eq hy) rfl rfl rfl ?_
    conv => whnf
    all_goals (cases h; exact Res.z rfl rfl rfl)
  clear h; intro hb h; conv => whnf
  refine br.h2 h ?_ ?_ ?_
  · rfl
  · clear h; intro hb h; conv => whnf
    all_goals (cases h; exact Res.z rfl rfl rfl)
  clear h; intro hb h; conv => whnf
  replace h := obind.elim h; obtain ⟨xg1, hy, h⟩ := h
  refine sumK.q rfl rfl (r114_eq hy) rfl rfl rfl ?_
  conv => whnf
  replace h := obind.elim h; obtain ⟨xg2, hy, h⟩ := h
  refine sumK.q rfl rfl (r114_eq hy) rfl rfl rfl ?_
  conv => whnf
  all_goals (cases h; exact Res.z rfl rfl rfl)
theorem ok84 (R02_Get : (List UInt8) → Int → Int → Option (Int × Bool)) (hS : SumsOK Try.prog (aget (sums84 R02_Get))) : SumOK Try.prog 84 (s84 (R04_GetF R02_Get)) := by
  refine SumOK.of_leads tab_ok (fun ar os r ha hr => ?_) ⟨Try.f84, rfl, by decide, rfl⟩
  replace hr : r84 (R04_GetF R02_Get) ar (conts os) = some r := hr
  unfold r84 at hr
  generalize hc : conts os = C at hr
  replace hr := dV.elim hr; obtain ⟨v0, l1, y0, rfl, e0, hr⟩ := hr; obtain rfl := asS_eq _ _ e0
  replace hr := dFin hr; obtain ⟨rfl, rfl, x, h, rfl⟩ := hr
  obtain rfl := kinds_nil hc
  exact ⟨_, rfl, leads84 R02_Get hS _ x h⟩
def R04_Get : (List UInt8) → Option (api_Addr × Bool) := R04_GetF R02_Get
theorem lift84 : SumOK Try.prog 84 (s84 R04_Get) := ok84 R02_Get (SumsOK.of_tab ⟨lift114, trivial⟩)
def icmp_quoteF (check_Right : (List UInt8) → Option Bool) (octet_New : (List UInt8) → Option octet_Reader) (octet_Reader_Num : octet_Reader → Int → Option (Int × octet_Reader)) (s : List UInt8) : Option (Int × (List UInt8) × (List UInt8) × Bool) :=
  (octet_New s).bind fun n =>
  (octet_Reader_Num n 1).bind fun n1 =>
  cond ((n1.1.fdiv (2 ^ 4)) == 4)
    (
    let t := decide ((wI .i64 ((andI .i64 n1.1 15) * 4)) < 20)
    cond (t)
      (
      some ((0, [], [], false)))
      (
      let t1 := decide ((wI .i64 ((andI .i64 n1.1 15) * 4)) > (s.length : Int))
      cond (t1)
        (
        some ((0, [], [], false)))
        (
        oreq (decide ((0 : Int) ≤ (wI .i64 ((andI .i64 n1.1 15) * 4)) ∧ (wI .i64 ((andI .i64 n1.1 15) * 4)) ≤ (s.length : Int))) <|
        let t2 := s.take (wI .i64 ((andI .i64 n1.1 15) * 4)).toNat
        (check_Right t2).bind fun xr =>
        cond (!xr)
          (
          some ((0, [], [], false)))
          (
          (s[9]?).bind fun (b : UInt8) =>
          oreq (decide ((0 : Int) ≤ (20 : Int) ∧ (20 : Int) ≤ (s.length : Int) ∧ (0 : Int) ≤ (12 : Int) ∧ (12 : Int) ≤ (20 : Int))) <|
          oreq (decide ((0 : Int) ≤ (wI .i64 ((andI .i64 n1.1 15) * 4)) ∧ (wI .i64 ((andI .i64 n1.1 15) * 4)) ≤ (s.length : Int))) <|
          let t3 := (s.drop (wI .i64 ((andI .i64 n1.1 15) * 4)).toNat).take (s.length - (wI .i64 ((andI .i64 n1.1 15) * 4)).toNat)
          some ((wI .i64 (b.toNat : Int), (s.drop 12).take 8, t3, true))))))
    (
    cond ((n1.1.fdiv (2 ^ 4)) == 6)
      (
      cond (decide ((s.length : Int) < 40))
        (
        some ((0, [], [], false)))
        (
        (s[6]?).bind fun (b1 : UInt8) =>
        oreq (decide ((0 : Int) ≤ (40 : Int) ∧ (40 : Int) ≤ (s.length : Int) ∧ (0 : Int) ≤ (8 : Int) ∧ (8 : Int) ≤ (40 : Int))) <|
        oreq (decide ((0 : Int) ≤ (40 : Int) ∧ (40 : Int) ≤ (s.length : Int))) <|
        some ((wI .i64 (b1.toNat : Int), (s.drop 8).take 32, (s.drop 40).take (s.length - 40), true))))
      (
      some ((0, [], [], false))))
def rx100 (x : Int × (List UInt8) × (List UInt8) × Bool) : SRes := ⟨.tuple ⟨[.int .i64 x.1, .string ⟨⟨x.2.1⟩⟩, .string ⟨⟨x.2.2.1⟩⟩, .bool x.2.2.2]⟩, [], []⟩
def r100 (g : (List UInt8) → Option (Int × (List UInt8) × (List UInt8) × Bool)) : Dec := dV asS fun (y0 : List UInt8) => dEnd (ofG (g y0) rx100)
theorem r100_c {g : (List UInt8) → Option (Int × (List UInt8) × (List UInt8) × Bool)} {y0 : List UInt8} {x : Int × (List UInt8) × (List UInt8) × Bool} (hx : g y0 = some x) : r100 g [.string ⟨⟨y0⟩⟩] [] = some (rx100 x) := (dV_eq (asS_c)).trans (ofG_eq hx)
def s100 (g : (List UInt8) → Option (Int × (List UInt8) × (List UInt8) × Bool)) : Summ := ⟨[.v], r100 g⟩
theorem r100_eq {g : (List UInt8) → Option (Int × (List UInt8) × (List UInt8) × Bool)} {y0 : List UInt8} {x : Int × (List UInt8) × (List UInt8) × Bool} (hx : g y0 = some x) : (s100 g).run [.string ⟨⟨y0⟩⟩] [] = some (rx100 x) := r100_c hx
abbrev sums100 (check_Right : (List UInt8) → Option Bool) (octet_New : (List UInt8) → Option octet_Reader) (octet_Reader_Num : octet_Reader → Int → Option (Int × octet_Reader)) : List (Nat × Summ) := [(73, s73 check_Right), (70, s70 octet_New), (71, s71 octet_Reader_Num)]
theorem leads100 (check_Right : (List UInt8) → Option Bool) (octet_New : (List UInt8) → Option octet_Reader) (octet_Reader_Num : octet_Reader → Int → Option (Int × octet_Reader)) (hS : SumsOK Try.prog (aget (sums100 check_Right octet_New octet_Reader_Num))) (s : List UInt8) (res : Int × (List UInt8) × (List UInt8) × Bool) (h : icmp_quoteF check_Right octet_New octet_Reader_Num s = some res) :
    Leads Try.prog 100 0 ⟨⟨100, 58, [(0, .string ⟨⟨s⟩⟩)], [.code k100_37], [], false, none⟩, [], [], 0⟩ (fun v H _ => Res 0 (rx100 res) v H) := by
  unfold icmp_quoteF at h
  refine ev_ok tab_ok hS true 3000 ?_
  conv => whnf
  replace h := obind.elim h; obtain ⟨n, hy, h⟩ := h
  refine sumK.introF [0] (sumRun_of (aqs := [.string ⟨⟨s⟩⟩]) (ws := []) (n := 1) (m := 0) (t' := 1) (ra_cons rfl rfl ra_nil) rfl (by rfl) (r70_eq hy) rfl rfl rfl rfl wb_nil (an_cons (rfl) an_nil) rfl) ?_
  conv => whnf
  replace h := obind.elim h; obtain ⟨n1, hy, h⟩ := h
  refine sumK.introF [0] (sumRun_of (aqs := [.pointer (some ⟨0, 0, none⟩), .int .i64 1]) (ws := [.win 0 0 3 true]) (n := 0) (m := 0) (t' := 1) (ra_cons rfl rfl (ra_cons rfl rfl ra_nil)) rfl (by rfl) (r71_eq hy) rfl rfl rfl rfl (wb_win rfl rfl rfl ⟨rfl, Nat.le_of_ble_eq_true rfl⟩ rfl rfl wb_nil) an_nil rfl) ?_
  conv => whnf
  refine br.h2 h ?_ ?_ ?_
  · rfl
  · clear h; intro hb h; conv => whnf
    refine br.h2 h ?_ ?_ ?_
    · rfl
    · clear h; intro hb h; conv => whnf
      all_goals (cases h; exact Res.z rfl rfl rfl)
    clear h; intro hb h; conv => whnf
    refine br.h h ?_ ?_ ?_
    · rfl
    · clear h; intro hb h; conv => whnf
      all_goals (cases h; exact Res.z rfl rfl rfl)
    clear h; intro hb h; conv => whnf
    replace h := obind.elim h; obtain ⟨b1, hy, h⟩ := h
    refine rdS.intro hy ?_
    conv => whnf
    replace h := oreq.elim h; obtain ⟨hb, h⟩ := h
    first | (refine req.intro hb ?_; conv => whnf) | skip
    replace h := oreq.elim h; obtain ⟨hb, h⟩ := h
    first | (refine req.intro hb ?_; conv => whnf) | skip
    all_goals (cases h; exact Res.z rfl rfl rfl)
  clear h; intro hb h; conv => whnf
  let t : Bool := decide ((wI .i64 ((andI .i64 n1.1 15) * 4)) < 20)
  refine br.h h ?_ ?_ ?_
  · rfl
  · clear h; intro hb h; conv => whnf
    all_goals (cases h; exact Res.z rfl rfl rfl)
  clear h; intro hb h; conv => whnf
  let t1 : Bool := decide ((wI .i64 ((andI .i64 n1.1 15) * 4)) > (s.length : Int))
  refine br.h h ?_ ?_ ?_
  · rfl
  · clear h; intro hb h; conv => whnf
    all_goals (cases h; exact Res.z rfl rfl rfl)
  clear h; intro hb h; conv => whnf
  replace h := oreq.elim h; obtain ⟨hb, h⟩ := h
  first | (refine req.intro hb ?_; conv => whnf) | skip
  let t2 : List UInt8 := s.take (wI .i64 ((andI .i64 n1.1 15) * 4)).toNat
  replace h := obind.elim h; obtain ⟨xr, hy, h⟩ := h
  refine sumK.q rfl rfl (r73_eq hy) rfl rfl rfl ?_
  conv => whnf
  refine br.h h ?_ ?_ ?_
  · rfl
  · clear h; intro hb h; conv => whnf
    all_goals (cases h; exact Res.z rfl rfl rfl)
  clear h; intro hb h; conv => whnf
  replace h := obind.elim h; obtain ⟨b, hy, h⟩ := h
  refine rdS.intro hy ?_
  conv => whnf
  replace h := oreq.elim h; obtain ⟨hb, h⟩ := h
  first | (refine req.intro hb ?_; conv => whnf) | skip
  replace h := oreq.elim h; obtain ⟨hb, h⟩ := h
  first | (refine req.intro hb ?_; conv => whnf) | skip
  let t3 : List UInt8 := (s.drop (wI .i64 ((andI .i64 n1.1 15) * 4)).toNat).take (s.length - (wI .i64 ((andI .i64 n1.1 15) * 4)).toNat)
  all_goals (cases h; exact Res.z rfl rfl rfl)
theorem ok100 (check_Right : (List UInt8) → Option Bool) (octet_New : (List UInt8) → Option octet_Reader) (octet_Reader_Num : octet_Reader → Int → Option (Int × octet_Reader)) (hS : SumsOK Try.prog (aget (sums100 check_Right octet_New octet_Reader_Num))) : SumOK Try.prog 100 (s100 (icmp_quoteF check_Right octet_New octet_Reader_Num)) := by
  refine SumOK.of_leads tab_ok (fun ar os r ha hr => ?_) ⟨Try.f100, rfl, by decide, rfl⟩
  replace hr : r100 (icmp_quoteF check_Right octet_New octet_Reader_Num) ar (conts os) = some r := hr
  unfold r100 at hr
  generalize hc : conts os = C at hr
  replace hr := dV.elim hr; obtain ⟨v0, l1, y0, rfl, e0, hr⟩ := hr; obtain rfl := asS_eq _ _ e0
  replace hr := dFin hr; obtain ⟨rfl, rfl, x, h, rfl⟩ := hr
  obtain rfl := kinds_nil hc
  exact ⟨_, rfl, leads100 check_Right octet_New octet_Reader_Num hS _ x h⟩
def icmp_quote : (List UInt8) → Option (Int × (List UInt8) × (List UInt8) × Bool) := icmp_quoteF check_Right octet_New octet_Reader_Num
theorem lift100 : SumOK Try.prog 100 (s100 icmp_quote) := ok100 check_Right octet_New octet_Reader_Num (SumsOK.of_tab ⟨lift73, lift70, lift71, trivial⟩)
def icmp_QuotedF (addr_Get : (List UInt8) → Option (api_Addr × Bool)) (icmp_quote : (List UInt8) → Option (Int × (List UInt8) × (List UInt8) × Bool)) (octet_Get : (List UInt8) → Int → Int → Option (Int × Bool)) (s : List UInt8) : Option (api_Tuple × Bool) :=
  (icmp_quote s).bind fun q =>
  (octet_Get q.2.2.1 0 4).bind fun xg =>
  cond (!q.2.2.2)
    (
    some ((api_Tuple.mk 0 (api_Addr.mk false 0 0) (api_Addr.mk false 0 0) 0 0, false)))
    (
    cond (!xg.2)
      (
      some ((api_Tuple.mk 0 (api_Addr.mk false 0 0) (api_Addr.mk false 0 0) 0 0, false)))
      (
      cond (q.1 != 6)
        (
        cond (q.1 != 17)
          (
          some ((api_Tuple.mk 0 (api_Addr.mk false 0 0) (api_Addr.mk false 0 0) 0 0, false)))
          (
          oreq (decide ((0 : Int) ≤ (wI .i64 ((q.2.1.length : Int).tdiv 2)) ∧ (wI .i64 ((q.2.1.length : Int).tdiv 2)) ≤ (q.2.1.length : Int))) <|
          let t := q.2.1.take (wI .i64 ((q.2.1.length : Int).tdiv 2)).toNat
          (addr_Get t).bind fun xg1 =>
          oreq (decide ((0 : Int) ≤ (wI .i64 ((q.2.1.length : Int).tdiv 2)) ∧ (wI .i64 ((q.2.1.length : Int).tdiv 2)) ≤ (q.2.1.length : Int))) <|
          let t1 := (q.2.1.drop (wI .i64 ((q.2.1.length : Int).tdiv 2)).toNat).take (q.2.1.length - (wI .i64 ((q.2.1.length : Int).tdiv 2)).toNat)
          (addr_Get t1).bind fun xg2 =>
          some ((api_Tuple.mk q.1 xg1.1 xg2.1 (wI .i64 (xg.1.fdiv (2 ^ 16))) (wI .i64 (andI .u64 xg.1 65535)), true))))
        (
        oreq (decide ((0 : Int) ≤ (wI .i64 ((q.2.1.length : Int).tdiv 2)) ∧ (wI .i64 ((q.2.1.length : Int).tdiv 2)) ≤ (q.2.1.length : Int))) <|
        let t2 := q.2.1.take (wI .i64 ((q.2.1.length : Int).tdiv 2)).toNat
        (addr_Get t2).bind fun xg3 =>
        oreq (decide ((0 : Int) ≤ (wI .i64 ((q.2.1.length : Int).tdiv 2)) ∧ (wI .i64 ((q.2.1.length : Int).tdiv 2)) ≤ (q.2.1.length : Int))) <|
        let t3 := (q.2.1.drop (wI .i64 ((q.2.1.length : Int).tdiv 2)).toNat).take (q.2.1.length - (wI .i64 ((q.2.1.length : Int).tdiv 2)).toNat)
        (addr_Get t3).bind fun xg4 =>
        some ((api_Tuple.mk q.1 xg3.1 xg4.1 (wI .i64 (xg.1.fdiv (2 ^ 16))) (wI .i64 (andI .u64 xg.1 65535)), true)))))
def rx39 (x : api_Tuple × Bool) : SRes := ⟨.tuple ⟨[.agg ⟨[.int .i64 x.1.Proto, .bool x.1.Src.V6, .int .u64 x.1.Src.Hi, .int .u64 x.1.Src.Lo, .bool x.1.Dst.V6, .int .u64 x.1.Dst.Hi, .int .u64 x.1.Dst.Lo, .int .i64 x.1.SPort, .int .i64 x.1.DPort]⟩, .bool x.2]⟩, [], []⟩
def r39 (g : (List UInt8) → Option (api_Tuple × Bool)) : Dec := dV asS fun (y0 : List UInt8) => dEnd (ofG (g y0) rx39)
theorem r39_c {g : (List UInt8) → Option (api_Tuple × Bool)} {y0 : List UInt8} {x : api_Tuple × Bool} (hx : g y0 = some x) : r39 g [.string ⟨⟨y0⟩⟩] [] = some (rx39 x) := (dV_eq (asS_c)).trans (ofG_eq hx)
def s39 (g : (List UInt8) → Option (api_Tuple × Bool)) : Summ := ⟨[.v], r39 g⟩
theorem r39_eq {g : (List UInt8) → Option (api_Tuple × Bool)} {y0 : List UInt8} {x : api_Tuple × Bool} (hx : g y0 = some x) : (s39 g).run [.string ⟨⟨y0⟩⟩] [] = some (rx39 x) := r39_c hx
abbrev sums39 (addr_Get : (List UInt8) → Option (api_Addr × Bool)) (icmp_quote : (List UInt8) → Option (Int × (List UInt8) × (List UInt8) × Bool)) (octet_Get : (List UInt8) → Int → Int → Option (Int × Bool)) : List (Nat × Summ) := [(102, s102 addr_Get), (100, s100 icmp_quote), (101, s101 octet_Get)]
theorem leads39 (addr_Get : (List UInt8) → Option (api_Addr × Bool)) (icmp_quote : (List UInt8) → Option (Int × (List UInt8) × (List UInt8) × Bool)) (octet_Get : (List UInt8) → Int → Int → Option (Int × Bool)) (hS : SumsOK Try.prog (aget (sums39 addr_Get icmp_quote octet_Get))) (s : List UInt8) (res : api_Tuple × Bool) (h : icmp_QuotedF addr_Get icmp_quote octet_Get s = some res) :
    Leads Try.prog 39 0 ⟨⟨39, 67, [(0, .string ⟨⟨s⟩⟩)], [.code k39_19], [], false, none⟩, [], [], 0⟩ (fun v H _ => Res 0 (rx39 res) v H) := by
  unfold icmp_QuotedF at h
  refine ev_ok tab_ok hS true 3000 ?_
  conv => whnf
  replace h := obind.elim h; obtain ⟨q, hy, h⟩ := h
  refine sumK.q rfl rfl (r100_eq hy) rfl rfl rfl ?_
  conv => whnf
  replace h := obind.elim h; obtain ⟨xg, hy, h⟩ := h
  refine sumK.q rfl rfl (r101_eq hy) rfl rfl rfl ?_
  conv => whnf
  refine br.h h ?_ ?_ ?_
  · rfl
  · clear h; intro hb h; conv => whnf
    all_goals (cases h; exact Res.z rfl rfl rfl)
  clear h; intro hb h; conv => whnf
  refine br.h h ?_ ?_ ?_
  · rfl
  · clear h; intro hb h; conv => whnf
    all_goals (cases h; exact Res.z rfl rfl rfl)
  clear h; intro hb h; conv => whnf
  refine br.h2 h ?_ ?_ ?_
  · rfl
  · clear h; intro hb h; conv => whnf
    replace h := oreq.elim h; obtain ⟨hb, h⟩ := h
    first | (refine req.intro hb ?_; conv => whnf) | skip
    let t2 : List UInt8 := q.2.1.take (wI .i64 ((q.2.1.length : Int).tdiv 2)).toNat
    replace h := obind.elim h; obtain ⟨xg3, hy, h⟩ := h
    refine sumK.q rfl rfl (r102_eq hy) rfl rfl rfl ?_
    conv => whnf
    replace h := oreq.elim h; obtain ⟨hb, h⟩ := h
    first | (refine req.intro hb ?_; conv => whnf) | skip
    let t3 : List UInt8 := (q.2.1.drop (wI .i64 ((q.2.1.length : Int).tdiv 2)).toNat).take (q.2.1.length - (wI .i64 ((q.2.1.length : Int).tdiv 2)).toNat)
    replace h := obind.elim h; obtain ⟨xg4, hy, h⟩ := h
    refine sumK.q rfl rfl (r102_eq hy) rfl rfl rfl ?_
    conv => whnf
    all_goals (cases h; exact Res.z rfl rfl rfl)
  clear h; intro hb h; conv => whnf
  refine br.h h ?_ ?_ ?_
  · rfl
  · clear h; intro hb h; conv => whnf
    all_goals (cases h; exact Res.z rfl rfl rfl)
  clear h; intro hb h; conv => whnf
  replace h := oreq.elim h; obtain ⟨hb, h⟩ := h
  first | (refine req.intro hb ?_; conv => whnf) | skip
  let t : List UInt8 := q.2.1.take (wI .i64 ((q.2.1.length : Int).tdiv 2)).toNat
  replace h := obind.elim h; obtain ⟨xg1, hy, h⟩ := h
  refine sumK.q rfl rfl (r102_eq hy) rfl rfl rfl ?_
  conv => whnf
  replace h := oreq.elim h; obtain ⟨hb, h⟩ := h
  first | (refine req.intro hb ?_; conv => whnf) | skip
  let t1 : List UInt8 := (q.2.1.drop (wI .i64 ((q.2.1.length : Int).tdiv 2)).toNat).take (q.2.1.length - (wI .i64 ((q.2.1.length : Int).tdiv 2)).toNat)
  replace h := obind.elim h; obtain ⟨xg2, hy, h⟩ := h
  refine sumK.q rfl rfl (r102_eq hy) rfl rfl rfl ?_
  conv => whnf
  all_goals (cases h; exact Res.z rfl rfl rfl)
theorem ok39 (addr_Get : (List UInt8) → Option (api_Addr × Bool)) (icmp_quote : (List UInt8) → Option (Int × (List UInt8) × (List UInt8) × Bool)) (octet_Get : (List UInt8) → Int → Int → Option (Int × Bool)) (hS : SumsOK Try.prog (aget (sums39 addr_Get icmp_quote octet_Get))) : SumOK Try.prog 39 (s39 (icmp_QuotedF addr_Get icmp_quote octet_Get)) := by
  refine SumOK.of_leads tab_ok (fun ar os r ha hr => ?_) ⟨Try.f39, rfl, by decide, rfl⟩
  replace hr : r39 (icmp_QuotedF addr_Get icmp_quote octet_Get) ar (conts os) = some r := hr
  unfold r39 at hr
  generalize hc : conts os = C at hr
  replace hr := dV.elim hr; obtain ⟨v0, l1, y0, rfl, e0, hr⟩ := hr; obtain rfl := asS_eq _ _ e0
  replace hr := dFin hr; obtain ⟨rfl, rfl, x, h, rfl⟩ := hr
  obtain rfl := kinds_nil hc
  exact ⟨_, rfl, leads39 addr_Get icmp_quote octet_Get hS _ x h⟩
def icmp_Quoted : (List UInt8) → Option (api_Tuple × Bool) := icmp_QuotedF addr_Get icmp_quote octet_Get
theorem lift39 : SumOK Try.prog 39 (s39 icmp_Quoted) := ok39 addr_Get icmp_quote octet_Get (SumsOK.of_tab ⟨lift102, lift100, lift101, trivial⟩)
def tuple_BackF (t : api_Tuple) : Option api_Tuple :=
  some (api_Tuple.mk t.Proto t.Dst t.Src t.DPort t.SPort)
def rx103 (x : api_Tuple) : SRes := ⟨.agg ⟨[.int .i64 x.Proto, .bool x.Src.V6, .int .u64 x.Src.Hi, .int .u64 x.Src.Lo, .bool x.Dst.V6, .int .u64 x.Dst.Hi, .int .u64 x.Dst.Lo, .int .i64 x.SPort, .int .i64 x.DPort]⟩, [], []⟩
def r103 (g : api_Tuple → Option api_Tuple) : Dec := dV uvapi_Tuple fun (y0 : api_Tuple) => dEnd (ofG (g y0) rx103)
theorem r103_c {g : api_Tuple → Option api_Tuple} {y0 : api_Tuple} {x : api_Tuple} (hx : g y0 = some x) : r103 g [.agg ⟨[.int .i64 y0.Proto, .bool y0.Src.V6, .int .u64 y0.Src.Hi, .int .u64 y0.Src.Lo, .bool y0.Dst.V6, .int .u64 y0.Dst.Hi, .int .u64 y0.Dst.Lo, .int .i64 y0.SPort, .int .i64 y0.DPort]⟩] [] = some (rx103 x) := (dV_eq (uvapi_Tuple_c _)).trans (ofG_eq hx)
def s103 (g : api_Tuple → Option api_Tuple) : Summ := ⟨[.v], r103 g⟩
theorem r103_eq {g : api_Tuple → Option api_Tuple} {y0 : api_Tuple} {x : api_Tuple} (hx : g y0 = some x) : (s103 g).run [.agg ⟨[.int .i64 y0.Proto, .bool y0.Src.V6, .int .u64 y0.Src.Hi, .int .u64 y0.Src.Lo, .bool y0.Dst.V6, .int .u64 y0.Dst.Hi, .int .u64 y0.Dst.Lo, .int .i64 y0.SPort, .int .i64 y0.DPort]⟩] [] = some (rx103 x) := r103_c hx
abbrev sums103 : List (Nat × Summ) := []
theorem leads103 (hS : SumsOK Try.prog (aget (sums103))) (t : api_Tuple) (res : api_Tuple) (h : tuple_BackF t = some res) :
    Leads Try.prog 103 0 ⟨⟨103, 16, [(0, .agg ⟨[.int .i64 t.Proto, .bool t.Src.V6, .int .u64 t.Src.Hi, .int .u64 t.Src.Lo, .bool t.Dst.V6, .int .u64 t.Dst.Hi, .int .u64 t.Dst.Lo, .int .i64 t.SPort, .int .i64 t.DPort]⟩)], [.code k103_5], [], false, none⟩, [], [], 0⟩ (fun v H _ => Res 0 (rx103 res) v H) := by
  unfold tuple_BackF at h
  refine ev_ok tab_ok hS true 3000 ?_
  conv => whnf
  all_goals (cases h; exact Res.z rfl rfl rfl)
theorem ok103 (hS : SumsOK Try.prog (aget (sums103))) : SumOK Try.prog 103 (s103 (tuple_BackF)) := by
  refine SumOK.of_leads tab_ok (fun ar os r ha hr => ?_) ⟨Try.f103, rfl, by decide, rfl⟩
  replace hr : r103 (tuple_BackF) ar (conts os) = some r := hr
  unfold r103 at hr
  generalize hc : conts os = C at hr
  replace hr := dV.elim hr; obtain ⟨v0, l1, y0, rfl, e0, hr⟩ := hr; obtain rfl := uvapi_Tuple_eq _ _ e0
  replace hr := dFin hr; obtain ⟨rfl, rfl, x, h, rfl⟩ := hr
  obtain rfl := kinds_nil hc
  exact ⟨_, rfl, leads103 hS _ x h⟩
def tuple_Back : api_Tuple → Option api_Tuple := tuple_BackF
theorem lift103 : SumOK Try.prog 103 (s103 tuple_Back) := ok103 (SumsOK.of_tab trivial)
def icmp_AboutF (icmp_Quoted : (List UInt8) → Option (api_Tuple × Bool)) (tuple_Back : api_Tuple → Option api_Tuple) (m : icmp_Message) : Option (api_Tuple × Bool) :=
  (icmp_Quoted m.Quote).bind fun q =>
  cond (!q.2)
    (
    some ((api_Tuple.mk 0 (api_Addr.mk false 0 0) (api_Addr.mk false 0 0) 0 0, false)))
    (
    cond (decide (m.Kind < 1))
      (
      some ((api_Tuple.mk 0 (api_Addr.mk false 0 0) (api_Addr.mk false 0 0) 0 0, false)))
      (
      cond (decide (m.Kind > 3))
        (
        some ((api_Tuple.mk 0 (api_Addr.mk false 0 0) (api_Addr.mk false 0 0) 0 0, false)))
        (
        (tuple_Back q.1).bind fun b =>
        some ((b, true)))))
def rx41 (x : api_Tuple × Bool) : SRes := ⟨.tuple ⟨[.agg ⟨[.int .i64 x.1.Proto, .bool x.1.Src.V6, .int .u64 x.1.Src.Hi, .int .u64 x.1.Src.Lo, .bool x.1.Dst.V6, .int .u64 x.1.Dst.Hi, .int .u64 x.1.Dst.Lo, .int .i64 x.1.SPort, .int .i64 x.1.DPort]⟩, .bool x.2]⟩, [], []⟩
def r41 (g : icmp_Message → Option (api_Tuple × Bool)) : Dec := dV uvicmp_Message fun (y0 : icmp_Message) => dEnd (ofG (g y0) rx41)
theorem r41_c {g : icmp_Message → Option (api_Tuple × Bool)} {y0 : icmp_Message} {x : api_Tuple × Bool} (hx : g y0 = some x) : r41 g [.agg ⟨[.int .i64 y0.Kind, .int .i64 y0.Code, .int .i64 y0.MTU, .string ⟨⟨y0.Quote⟩⟩]⟩] [] = some (rx41 x) := (dV_eq (uvicmp_Message_c _)).trans (ofG_eq hx)
def s41 (g : icmp_Message → Option (api_Tuple × Bool)) : Summ := ⟨[.v], r41 g⟩
theorem r41_eq {g : icmp_Message → Option (api_Tuple × Bool)} {y0 : icmp_Message} {x : api_Tuple × Bool} (hx : g y0 = some x) : (s41 g).run [.agg ⟨[.int .i64 y0.Kind, .int .i64 y0.Code, .int .i64 y0.MTU, .string ⟨⟨y0.Quote⟩⟩]⟩] [] = some (rx41 x) := r41_c hx
abbrev sums41 (icmp_Quoted : (List UInt8) → Option (api_Tuple × Bool)) (tuple_Back : api_Tuple → Option api_Tuple) : List (Nat × Summ) := [(39, s39 icmp_Quoted), (103, s103 tuple_Back)]
theorem leads41 (icmp_Quoted : (List UInt8) → Option (api_Tuple × Bool)) (tuple_Back : api_Tuple → Option api_Tuple) (hS : SumsOK Try.prog (aget (sums41 icmp_Quoted tuple_Back))) (m : icmp_Message) (res : api_Tuple × Bool) (h : icmp_AboutF icmp_Quoted tuple_Back m = some res) :
    Leads Try.prog 41 0 ⟨⟨41, 27, [(0, .agg ⟨[.int .i64 m.Kind, .int .i64 m.Code, .int .i64 m.MTU, .string ⟨⟨m.Quote⟩⟩]⟩)], [.code k41_11], [], false, none⟩, [], [], 0⟩ (fun v H _ => Res 0 (rx41 res) v H) := by
  unfold icmp_AboutF at h
  refine ev_ok tab_ok hS true 3000 ?_
  conv => whnf
  replace h := obind.elim h; obtain ⟨q, hy, h⟩ := h
  refine sumK.q rfl rfl (r39_eq hy) rfl rfl rfl ?_
  conv => whnf
  refine br.h h ?_ ?_ ?_
  · rfl
  · clear h; intro hb h; conv => whnf
    all_goals (cases h; exact Res.z rfl rfl rfl)
  clear h; intro hb h; conv => whnf
  refine br.h h ?_ ?_ ?_
  · rfl
  · clear h; intro hb h; conv => whnf
    all_goals (cases h; exact Res.z rfl rfl rfl)
  clear h; intro hb h; conv => whnf
  refine br.h h ?_ ?_ ?_
  · rfl
  · clear h; intro hb h; conv => whnf
    all_goals (cases h; exact Res.z rfl rfl rfl)
  clear h; intro hb h; conv => whnf
  replace h := obind.elim h; obtain ⟨b, hy, h⟩ := h
  refine sumK.q rfl rfl (r103_eq hy) rfl rfl rfl ?_
  conv => whnf
  all_goals (cases h; exact Res.z rfl rfl rfl)
theorem ok41 (icmp_Quoted : (List UInt8) → Option (api_Tuple × Bool)) (tuple_Back : api_Tuple → Option api_Tuple) (hS : SumsOK Try.prog (aget (sums41 icmp_Quoted tuple_Back))) : SumOK Try.prog 41 (s41 (icmp_AboutF icmp_Quoted tuple_Back)) := by
  refine SumOK.of_leads tab_ok (fun ar os r ha hr => ?_) ⟨Try.f41, rfl, by decide, rfl⟩
  replace hr : r41 (icmp_AboutF icmp_Quoted tuple_Back) ar (conts os) = some r := hr
  unfold r41 at hr
  generalize hc : conts os = C at hr
  replace hr := dV.elim hr; obtain ⟨v0, l1, y0, rfl, e0, hr⟩ := hr; obtain rfl := uvicmp_Message_eq _ _ e0
  replace hr := dFin hr; obtain ⟨rfl, rfl, x, h, rfl⟩ := hr
  obtain rfl := kinds_nil hc
  exact ⟨_, rfl, leads41 icmp_Quoted tuple_Back hS _ x h⟩
def icmp_About : icmp_Message → Option (api_Tuple × Bool) := icmp_AboutF icmp_Quoted tuple_Back
theorem lift41 : SumOK Try.prog 41 (s41 icmp_About) := ok41 icmp_Quoted tuple_Back (SumsOK.of_tab ⟨lift39, lift103, trivial⟩)
def R53_QuotedF (R02_Must : (List UInt8) → Int → Int → Option Int) (R03_Sum : (List UInt8) → Option Int) (R04_Get : (List UInt8) → Option (api_Addr × Bool)) (q : List UInt8) : Option (api_Tuple × Bool) :=
  cond (decide ((q.length : Int) < 20))
    (
    some ((api_Tuple.mk 0 (api_Addr.mk false 0 0) (api_Addr.mk false 0 0) 0 0, false)))
    (
    (q[0]?).bind fun (b : UInt8) =>
    cond ((wI .u8 ((b.toNat : Int).tdiv 16)) == 4)
      (
      (q[0]?).bind fun (b1 : UInt8) =>
      let t := wI .i64 (4 * (wI .i64 ((b1.toNat : Int).tmod 16)))
      (q[9]?).bind fun (b2 : UInt8) =>
      cond (decide (t < 20))
        (
        some ((api_Tuple.mk 0 (api_Addr.mk false 0 0) (api_Addr.mk false 0 0) 0 0, false)))
        (
        cond (decide (t > (q.length : Int)))
          (
          some ((api_Tuple.mk 0 (api_Addr.mk false 0 0) (api_Addr.mk false 0 0) 0 0, false)))
          (
          oreq (decide ((0 : Int) ≤ t ∧ t ≤ (q.length : Int))) <|
          (R03_Sum (q.take t.toNat)).bind fun s =>
          cond (s != 65535)
            (
            some ((api_Tuple.mk 0 (api_Addr.mk false 0 0) (api_Addr.mk false 0 0) 0 0, false)))
            (
            let t1 := decide ((q.length : Int) < (wI .i64 (t + 4)))
            cond (t1)
              (
              some ((api_Tuple.mk 0 (api_Addr.mk false 0 0) (api_Addr.mk false 0 0) 0 0, false)))
              (
              cond ((wI .i64 (b2.toNat : Int)) != 6)
                (
                cond ((wI .i64 (b2.toNat : Int)) != 17)
                  (
                  some ((api_Tuple.mk 0 (api_Addr.mk false 0 0) (api_Addr.mk false 0 0) 0 0, false)))
                  (
                  oreq (decide ((0 : Int) ≤ (16 : Int) ∧ (16 : Int) ≤ (q.length : Int) ∧ (0 : Int) ≤ (12 : Int) ∧ (12 : Int) ≤ (16 : Int))) <|
                  (R04_Get ((q.drop 12).take 4)).bind fun xg =>
                  oreq (decide ((0 : Int) ≤ (20 : Int) ∧ (20 : Int) ≤ (q.length : Int) ∧ (0 : Int) ≤ (16 : Int) ∧ (16 : Int) ≤ (20 : Int))) <|
                  (R04_Get ((q.drop 16).take 4)).bind fun xg1 =>
                  (R02_Must q t 2).bind fun m =>
                  (R02_Must q (wI .i64 (t + 2)) 2).bind fun m1 =>
                  some ((api_Tuple.mk (wI .i64 (b2.toNat : Int)) xg.1 xg1.1 m m1, true))))
                (
                oreq (decide ((0 : Int) ≤ (16 : Int) ∧ (16 : Int) ≤ (q.length : Int) ∧ (0 : Int) ≤ (12 : Int) ∧ (12 : Int) ≤ (16 : Int))) <|
                (R04_Get ((q.drop 12).take 4)).bind fun xg2 =>
                oreq (decide ((0 : Int) ≤ (20 : Int) ∧ (20 : Int) ≤ (q.length : Int) ∧ (0 : Int) ≤ (16 : Int) ∧ (16 : Int) ≤ (20 : Int))) <|
                (R04_Get ((q.drop 16).take 4)).bind fun xg3 =>
                (R02_Must q t 2).bind fun m2 =>
                (R02_Must q (wI .i64 (t + 2)) 2).bind fun m3 =>
                some ((api_Tuple.mk (wI .i64 (b2.toNat : Int)) xg2.1 xg3.1 m2 m3, true))))))))
      (
      (q[0]?).bind fun (b3 : UInt8) =>
      cond ((wI .u8 ((b3.toNat : Int).tdiv 16)) == 6)
        (
        (q[6]?).bind fun (b4 : UInt8) =>
        cond (decide ((q.length : Int) < 44))
          (
          some ((api_Tuple.mk 0 (api_Addr.mk false 0 0) (api_Addr.mk false 0 0) 0 0, false)))
          (
          cond ((wI .i64 (b4.toNat : Int)) != 6)
            (
            cond ((wI .i64 (b4.toNat : Int)) != 17)
              (
              some ((api_Tuple.mk 0 (api_Addr.mk false 0 0) (api_Addr.mk false 0 0) 0 0, false)))
              (
              oreq (decide ((0 : Int) ≤ (24 : Int) ∧ (24 : Int) ≤ (q.length : Int) ∧ (0 : Int) ≤ (8 : Int) ∧ (8 : Int) ≤ (24 : Int))) <|
              (R04_Get ((q.drop 8).take 16)).bind fun xg4 =>
              oreq (decide ((0 : Int) ≤ (40 : Int) ∧ (40 : Int) ≤ (q.length : Int) ∧ (0 : Int) ≤ (24 : Int) ∧ (24 : Int) ≤ (40 : Int))) <|
              (R04_Get ((q.drop 24).take 16)).bind fun xg5 =>
              (R02_Must q 40 2).bind fun m4 =>
              (R02_Must q 42 2).bind fun m5 =>
              some ((api_Tuple.mk (wI .i64 (b4.toNat : Int)) xg4.1 xg5.1 m4 m5, true))))
            (
            oreq (decide ((0 : Int) ≤ (24 : Int) ∧ (24 : Int) ≤ (q.length : Int) ∧ (0 : Int) ≤ (8 : Int) ∧ (8 : Int) ≤ (24 : Int))) <|
            (R04_Get ((q.drop 8).take 16)).bind fun xg6 =>
            oreq (decide ((0 : Int) ≤ (40 : Int) ∧ (40 : Int) ≤ (q.length : Int) ∧ (0 : Int) ≤ (24 : Int) ∧ (24 : Int) ≤ (40 : Int))) <|
            (R04_Get ((q.drop 24).take 16)).bind fun xg7 =>
            (R02_Must q 40 2).bind fun m6 =>
            (R02_Must q 42 2).bind fun m7 =>
            some ((api_Tuple.mk (wI .i64 (b4.toNat : Int)) xg6.1 xg7.1 m6 m7, true)))))
        (
        cond (decide ((q.length : Int) < 44))
          (
          some ((api_Tuple.mk 0 (api_Addr.mk false 0 0) (api_Addr.mk false 0 0) 0 0, false)))
          (
          some ((api_Tuple.mk 0 (api_Addr.mk false 0 0) (api_Addr.mk false 0 0) 0 0, false))))))
def rx40 (x : api_Tuple × Bool) : SRes := ⟨.tuple ⟨[.agg ⟨[.int .i64 x.1.Proto, .bool x.1.Src.V6, .int .u64 x.1.Src.Hi, .int .u64 x.1.Src.Lo, .bool x.1.Dst.V6, .int .u64 x.1.Dst.Hi, .int .u64 x.1.Dst.Lo, .int .i64 x.1.SPort, .int .i64 x.1.DPort]⟩, .bool x.2]⟩, [], []⟩
def r40 (g : (List UInt8) → Option (api_Tuple × Bool)) : Dec := dV asS fun (y0 : List UInt8) => dEnd (ofG (g y0) rx40)
theorem r40_c {g : (List UInt8) → Option (api_Tuple × Bool)} {y0 : List UInt8} {x : api_Tuple × Bool} (hx : g y0 = some x) : r40 g [.string ⟨⟨y0⟩⟩] [] = some (rx40 x) := (dV_eq (asS_c)).trans (ofG_eq hx)
def s40 (g : (List UInt8) → Option (api_Tuple × Bool)) : Summ := ⟨[.v], r40 g⟩
theorem r40_eq {g : (List UInt8) → Option (api_Tuple × Bool)} {y0 : List UInt8} {x : api_Tuple × Bool} (hx : g y0 = some x) : (s40 g).run [.string ⟨⟨y0⟩⟩] [] = some (rx40 x) := r40_c hx
abbrev sums40 (R02_Must : (List UInt8) → Int → Int → Option Int) (R03_Sum : (List UInt8) → Option Int) (R04_Get : (List UInt8) → Option (api_Addr × Bool)) : List (Nat × Summ) := [(74, s74 R02_Must), (75, s75 R03_Sum), (84, s84 R04_Get)]
theorem leads40 (R02_Must : (List UInt8) → Int → Int → Option Int) (R03_Sum : (List UInt8) → Option Int) (R04_Get : (List UInt8) → Option (api_Addr × Bool)) (hS : SumsOK Try.prog (aget (sums40 R02_Must R03_Sum R04_Get))) (q : List UInt8) (res : api_Tuple × Bool) (h : R53_QuotedF R02_Must R03_Sum R04_Get q = some res) :
    Leads Try.prog 40 0 ⟨⟨40, 99, [(0, .string ⟨⟨q⟩⟩)], [.code k40_44], [], false, none⟩, [], [], 0⟩ (fun v H _ => Res 0 (rx40 res) v H) := by
  unfold R53_QuotedF at h
  refine ev_ok tab_ok hS true 3000 ?_
  conv => whnf
  refine br.h h ?_ ?_ ?_
  · rfl
  · clear h; intro hb h; conv => whnf
    all_goals (cases h; exact Res.z rfl rfl rfl)
  clear h; intro hb h; conv => whnf
  replace h := obind.elim h; obtain ⟨b, hy, h⟩ := h
  refine rdS.intro hy ?_
  conv => whnf
  refine br.h2 h ?_ ?_ ?_
  · rfl
  · clear h; intro hb h; conv => whnf
    replace h := obind.elim h; obtain ⟨b3, hy, h⟩ := h
    refine rdS.intro hy ?_
    conv => whnf
    refine br.h2 h ?_ ?_ ?_
    · rfl
    · clear h; intro hb h; conv => whnf
      refine br.h h ?_ ?_ ?_
      · rfl
      · clear h; intro hb h; conv => whnf
        all_goals (cases h; exact Res.z rfl rfl rfl)
      clear h; intro hb h; conv => whnf
      all_goals (cases h; exact Res.z rfl rfl rfl)
    clear h; intro hb h; conv => whnf
    replace h := obind.elim h; obtain ⟨b4, hy, h⟩ := h
    refine rdS.intro hy ?_
    conv => whnf
    refine br.h h ?_ ?_ ?_
    · rfl
    · clear h; intro hb h; conv => whnf
      all_goals (cases h; exact Res.z rfl rfl rfl)
    clear h; intro hb h; conv => whnf
    refine br.h2 h ?_ ?_ ?_
    · rfl
    · clear h; intro hb h; conv => whnf
      replace h := oreq.elim h; obtain ⟨hb, h⟩ := h
      first | (refine req.intro hb ?_; conv => whnf) | skip
      replace h := obind.elim h; obtain ⟨xg6, hy, h⟩ := h
      refine sumK.q rfl rfl (r84_eq hy) rfl rfl rfl ?_
      conv => whnf
      replace h := oreq.elim h; obtain ⟨hb, h⟩ := h
      first | (refine req.intro hb ?_; conv => whnf) | skip
      replace h := obind.elim h; obtain ⟨xg7, hy, h⟩ := h
      refine sumK.q rfl rfl (r84_eq hy) rfl rfl rfl ?_
      conv => whnf
      replace h := obind.elim h; obtain ⟨m6, hy, h⟩ := h
      refine sumK.q rfl rfl (r74_eq hy) rfl rfl rfl ?_
      conv => whnf
      replace h := obind.elim h; obtain ⟨m7, hy, h⟩ := h
      refine sumK.q rfl rfl (r74_eq hy) rfl rfl rfl ?_
      conv => whnf
      all_goals (cases h; exact Res.z rfl rfl rfl)
    clear h; intro hb h; conv => whnf
    refine br.h h ?_ ?_ ?_
    · rfl
    · clear h; intro hb h; conv => whnf
      all_goals (cases h; exact Res.z rfl rfl rfl)
    clear h; intro hb h; conv => whnf
    replace h := oreq.elim h; obtain ⟨hb, h⟩ := h
    first | (refine req.intro hb ?_; conv => whnf) | skip
    replace h := obind.elim h; obtain ⟨xg4, hy, h⟩ := h
    refine sumK.q rfl rfl (r84_eq hy) rfl rfl rfl ?_
    conv => whnf
    replace h := oreq.elim h; obtain ⟨hb, h⟩ := h
    first | (refine req.intro hb ?_; conv => whnf) | skip
    replace h := obind.elim h; obtain ⟨xg5, hy, h⟩ := h
    refine sumK.q rfl rfl (r84_eq hy) rfl rfl rfl ?_
    conv => whnf
    replace h := obind.elim h; obtain ⟨m4, hy, h⟩ := h
    refine sumK.q rfl rfl (r74_eq hy) rfl rfl rfl ?_
    conv => whnf
    replace h := obind.elim h; obtain ⟨m5, hy, h⟩ := h
    refine sumK.q rfl rfl (r74_eq hy) rfl rfl rfl ?_
    conv => whnf
    all_goals (cases h; exact Res.z rfl rfl rfl)
  clear h; intro hb h; conv => whnf
  replace h := obind.elim h; obtain ⟨b1, hy, h⟩ := h
  refine rdS.intro hy ?_
  conv => whnf
  let t : Int := wI .i64 (4 * (wI .i64 ((b1.toNat : Int).tmod 16)))
  replace h := obind.elim h; obtain ⟨b2, hy, h⟩ := h
  refine rdS.intro hy ?_
  conv => whnf
  refine br.h h ?_ ?_ ?_
  · rfl
  · clear h; intro hb h; conv => whnf
    all_goals (cases h; exact Res.z rfl rfl rfl)
  clear h; intro hb h; conv => whnf
  refine br.h h ?_ ?_ ?_
  · rfl
  · clear h; intro hb h; conv => whnf
    all_goals (cases h; exact Res.z rfl rfl rfl)
  clear h; intro hb h; conv => whnf
  replace h := oreq.elim h; obtain ⟨hb, h⟩ := h
  first | (refine req.intro hb ?_; conv => whnf) | skip
  replace h := obind.elim h; obtain ⟨s, hy, h⟩ := h
  refine sumK.q rfl rfl (r75_eq hy) rfl rfl rfl ?_
  conv => whnf
  refine br.h h ?_ ?_ ?_
  · rfl
  · clear h; intro hb h; conv => whnf
    all_goals (cases h; exact Res.z rfl rfl rfl)
  clear h; intro hb h; conv => whnf
  let t1 : Bool := decide ((q.length : Int) < (wI .i64 (t + 4)))
  refine br.h h ?_ ?_ ?_
  · rfl
  · clear h; intro hb h; conv => whnf
    all_goals (cases h; exact Res.z rfl rfl rfl)
  clear h; intro hb h; conv => whnf
  refine br.h2 h ?_ ?_ ?_
  · rfl
  · clear h; intro hb h; conv => whnf
    replace h := oreq.elim h; obtain ⟨hb, h⟩ := h
    first | (refine req.intro hb ?_; conv => whnf) | skip
    replace h := obind.elim h; obtain ⟨xg2, hy, h⟩ := h
    refine sumK.q rfl rfl (r84_eq hy) rfl rfl rfl ?_
    conv => whnf
    replace h := oreq.elim h; obtain ⟨hb, h⟩ := h
    first | (refine req.intro hb ?_; conv => whnf) | skip
    replace h := obind.elim h; obtain ⟨xg3, hy, h⟩ := h
    refine sumK.q rfl rfl (r84_eq hy) rfl rfl rfl ?_
    conv => whnf
    replace h := obind.elim h; obtain ⟨m2, hy, h⟩ := h
    refine sumK.q rfl rfl (r74_eq hy) rfl rfl rfl ?_
    conv => whnf
    replace h := obind.elim h; obtain ⟨m3, hy, h⟩ := h
    refine sumK.q rfl rfl (r74_eq hy) rfl rfl rfl ?_
    conv => whnf
    all_goals (cases h; exact Res.z rfl rfl rfl)
  clear h; intro hb h; conv => whnf
  refine br.h h ?_ ?_ ?_
  · rfl
  · clear h; intro hb h; conv => whnf
    all_goals (cases h; exact Res.z rfl rfl rfl)
  clear h; intro hb h; conv => whnf
  replace h := oreq.elim h; obtain ⟨hb, h⟩ := h
  first | (refine req.intro hb ?_; conv => whnf) | skip
  replace h := obind.elim h; obtain ⟨xg, hy, h⟩ := h
  refine sumK.q rfl rfl (r84_eq hy) rfl rfl rfl ?_
  conv => whnf
  replace h := oreq.elim h; obtain ⟨hb, h⟩ := h
  first | (refine req.intro hb ?_; conv => whnf) | skip
  replace h := obind.elim h; obtain ⟨xg1, hy, h⟩ := h
  refine sumK.q rfl rfl (r84_eq hy) rfl rfl rfl ?_
  conv => whnf
  replace h := obind.elim h; obtain ⟨m, hy, h⟩ := h
  refine sumK.q rfl rfl (r74_eq hy) rfl rfl rfl ?_
  conv => whnf
  replace h := obind.elim h; obtain ⟨m1, hy, h⟩ := h
  refine sumK.q rfl rfl (r74_eq hy) rfl rfl rfl ?_
  conv => whnf
  all_goals (cases h; exact Res.z rfl rfl rfl)
theorem ok40 (R02_Must : (List UInt8) → Int → Int → Option Int) (R03_Sum : (List UInt8) → Option Int) (R04_Get : (List UInt8) → Option (api_Addr × Bool)) (hS : SumsOK Try.prog (aget (sums40 R02_Must R03_Sum R04_Get))) : SumOK Try.prog 40 (s40 (R53_QuotedF R02_Must R03_Sum R04_Get)) := by
  refine SumOK.of_leads tab_ok (fun ar os r ha hr => ?_) ⟨Try.f40, rfl, by decide, rfl⟩
  replace hr : r40 (R53_QuotedF R02_Must R03_Sum R04_Get) ar (conts os) = some r := hr
  unfold r40 at hr
  generalize hc : conts os = C at hr
  replace hr := dV.elim hr; obtain ⟨v0, l1, y0, rfl, e0, hr⟩ := hr; obtain rfl := asS_eq _ _ e0
  replace hr := dFin hr; obtain ⟨rfl, rfl, x, h, rfl⟩ := hr
  obtain rfl := kinds_nil hc
  exact ⟨_, rfl, leads40 R02_Must R03_Sum R04_Get hS _ x h⟩
def R53_Quoted : (List UInt8) → Option (api_Tuple × Bool) := R53_QuotedF R02_Must R03_Sum R04_Get
theorem lift40 : SumOK Try.prog 40 (s40 R53_Quoted) := ok40 R02_Must R03_Sum R04_Get (SumsOK.of_tab ⟨lift74, lift75, lift84, trivial⟩)
def R13_BackF (t : api_Tuple) : Option api_Tuple :=
  some (api_Tuple.mk t.Proto t.Dst t.Src t.DPort t.SPort)
def rx46 (x : api_Tuple) : SRes := ⟨.agg ⟨[.int .i64 x.Proto, .bool x.Src.V6, .int .u64 x.Src.Hi, .int .u64 x.Src.Lo, .bool x.Dst.V6, .int .u64 x.Dst.Hi, .int .u64 x.Dst.Lo, .int .i64 x.SPort, .int .i64 x.DPort]⟩, [], []⟩
def r46 (g : api_Tuple → Option api_Tuple) : Dec := dV uvapi_Tuple fun (y0 : api_Tuple) => dEnd (ofG (g y0) rx46)
theorem r46_c {g : api_Tuple → Option api_Tuple} {y0 : api_Tuple} {x : api_Tuple} (hx : g y0 = some x) : r46 g [.agg ⟨[.int .i64 y0.Proto, .bool y0.Src.V6, .int .u64 y0.Src.Hi, .int .u64 y0.Src.Lo, .bool y0.Dst.V6, .int .u64 y0.Dst.Hi, .int .u64 y0.Dst.Lo, .int .i64 y0.SPort, .int .i64 y0.DPort]⟩] [] = some (rx46 x) := (dV_eq (uvapi_Tuple_c _)).trans (ofG_eq hx)
def s46 (g : api_Tuple → Option api_Tuple) : Summ := ⟨[.v], r46 g⟩
theorem r46_eq {g : api_Tuple → Option api_Tuple} {y0 : api_Tuple} {x : api_Tuple} (hx : g y0 = some x) : (s46 g).run [.agg ⟨[.int .i64 y0.Proto, .bool y0.Src.V6, .int .u64 y0.Src.Hi, .int .u64 y0.Src.Lo, .bool y0.Dst.V6, .int .u64 y0.Dst.Hi, .int .u64 y0.Dst.Lo, .int .i64 y0.SPort, .int .i64 y0.DPort]⟩] [] = some (rx46 x) := r46_c hx
abbrev sums46 : List (Nat × Summ) := []
theorem leads46 (hS : SumsOK Try.prog (aget (sums46))) (t : api_Tuple) (res : api_Tuple) (h : R13_BackF t = some res) :
    Leads Try.prog 46 0 ⟨⟨46, 14, [(0, .agg ⟨[.int .i64 t.Proto, .bool t.Src.V6, .int .u64 t.Src.Hi, .int .u64 t.Src.Lo, .bool t.Dst.V6, .int .u64 t.Dst.Hi, .int .u64 t.Dst.Lo, .int .i64 t.SPort, .int .i64 t.DPort]⟩)], [.code k46_3], [], false, none⟩, [], [], 0⟩ (fun v H _ => Res 0 (rx46 res) v H) := by
  unfold R13_BackF at h
  refine ev_ok tab_ok hS true 3000 ?_
  conv => whnf
  all_goals (cases h; exact Res.z rfl rfl rfl)
theorem ok46 (hS : SumsOK Try.prog (aget (sums46))) : SumOK Try.prog 46 (s46 (R13_BackF)) := by
  refine SumOK.of_leads tab_ok (fun ar os r ha hr => ?_) ⟨Try.f46, rfl, by decide, rfl⟩
  replace hr : r46 (R13_BackF) ar (conts os) = some r := hr
  unfold r46 at hr
  generalize hc : conts os = C at hr
  replace hr := dV.elim hr; obtain ⟨v0, l1, y0, rfl, e0, hr⟩ := hr; obtain rfl := uvapi_Tuple_eq _ _ e0
  replace hr := dFin hr; obtain ⟨rfl, rfl, x, h, rfl⟩ := hr
  obtain rfl := kinds_nil hc
  exact ⟨_, rfl, leads46 hS _ x h⟩
def R13_Back : api_Tuple → Option api_Tuple := R13_BackF
theorem lift46 : SumOK Try.prog 46 (s46 R13_Back) := ok46 (SumsOK.of_tab trivial)
def R53_AboutF (R13_Back : api_Tuple → Option api_Tuple) (R53_Quoted : (List UInt8) → Option (api_Tuple × Bool)) (m : icmp_Message) : Option (api_Tuple × Bool) :=
  (R53_Quoted m.Quote).bind fun q =>
  cond (!q.2)
    (
    some ((api_Tuple.mk 0 (api_Addr.mk false 0 0) (api_Addr.mk false 0 0) 0 0, false)))
    (
    cond (decide (m.Kind < 1))
      (
      some ((api_Tuple.mk 0 (api_Addr.mk false 0 0) (api_Addr.mk false 0 0) 0 0, false)))
      (
      cond (decide (m.Kind > 3))
        (
        some ((api_Tuple.mk 0 (api_Addr.mk false 0 0) (api_Addr.mk false 0 0) 0 0, false)))
        (
        (R13_Back q.1).bind fun b =>
        some ((b, true)))))
def rx42 (x : api_Tuple × Bool) : SRes := ⟨.tuple ⟨[.agg ⟨[.int .i64 x.1.Proto, .bool x.1.Src.V6, .int .u64 x.1.Src.Hi, .int .u64 x.1.Src.Lo, .bool x.1.Dst.V6, .int .u64 x.1.Dst.Hi, .int .u64 x.1.Dst.Lo, .int .i64 x.1.SPort, .int .i64 x.1.DPort]⟩, .bool x.2]⟩, [], []⟩
def r42 (g : icmp_Message → Option (api_Tuple × Bool)) : Dec := dV uvicmp_Message fun (y0 : icmp_Message) => dEnd (ofG (g y0) rx42)
theorem r42_c {g : icmp_Message → Option (api_Tuple × Bool)} {y0 : icmp_Message} {x : api_Tuple × Bool} (hx : g y0 = some x) : r42 g [.agg ⟨[.int .i64 y0.Kind, .int .i64 y0.Code, .int .i64 y0.MTU, .string ⟨⟨y0.Quote⟩⟩]⟩] [] = some (rx42 x) := (dV_eq (uvicmp_Message_c _)).trans (ofG_eq hx)
def s42 (g : icmp_Message → Option (api_Tuple × Bool)) : Summ := ⟨[.v], r42 g⟩
theorem r42_eq {g : icmp_Message → Option (api_Tuple × Bool)} {y0 : icmp_Message} {x : api_Tuple × Bool} (hx : g y0 = some x) : (s42 g).run [.agg ⟨[.int .i64 y0.Kind, .int .i64 y0.Code, .int .i64 y0.MTU, .string ⟨⟨y0.Quote⟩⟩]⟩] [] = some (rx42 x) := r42_c hx
abbrev sums42 (R13_Back : api_Tuple → Option api_Tuple) (R53_Quoted : (List UInt8) → Option (api_Tuple × Bool)) : List (Nat × Summ) := [(46, s46 R13_Back), (40, s40 R53_Quoted)]
theorem leads42 (R13_Back : api_Tuple → Option api_Tuple) (R53_Quoted : (List UInt8) → Option (api_Tuple × Bool)) (hS : SumsOK Try.prog (aget (sums42 R13_Back R53_Quoted))) (m : icmp_Message) (res : api_Tuple × Bool) (h : R53_AboutF R13_Back R53_Quoted m = some res) :
    Leads Try.prog 42 0 ⟨⟨42, 27, [(0, .agg ⟨[.int .i64 m.Kind, .int .i64 m.Code, .int .i64 m.MTU, .string ⟨⟨m.Quote⟩⟩]⟩)], [.code k42_11], [], false, none⟩, [], [], 0⟩ (fun v H _ => Res 0 (rx42 res) v H) := by
  unfold R53_AboutF at h
  refine ev_ok tab_ok hS true 3000 ?_
  conv => whnf
  replace h := obind.elim h; obtain ⟨q, hy, h⟩ := h
  refine sumK.q rfl rfl (r40_eq hy) rfl rfl rfl ?_
  conv => whnf
  refine br.h h ?_ ?_ ?_
  · rfl
  · clear h; intro hb h; conv => whnf
    all_goals (cases h; exact Res.z rfl rfl rfl)
  clear h; intro hb h; conv => whnf
  refine br.h h ?_ ?_ ?_
  · rfl
  · clear h; intro hb h; conv => whnf
    all_goals (cases h; exact Res.z rfl rfl rfl)
  clear h; intro hb h; conv => whnf
  refine br.h h ?_ ?_ ?_
  · rfl
  · clear h; intro hb h; conv => whnf
    all_goals (cases h; exact Res.z rfl rfl rfl)
  clear h; intro hb h; conv => whnf
  replace h := obind.elim h; obtain ⟨b, hy, h⟩ := h
  refine sumK.q rfl rfl (r46_eq hy) rfl rfl rfl ?_
  conv => whnf
  all_goals (cases h; exact Res.z rfl rfl rfl)
theorem ok42 (R13_Back : api_Tuple → Option api_Tuple) (R53_Quoted : (List UInt8) → Option (api_Tuple × Bool)) (hS : SumsOK Try.prog (aget (sums42 R13_Back R53_Quoted))) : SumOK Try.prog 42 (s42 (R53_AboutF R13_Back R53_Quoted)) := by
  refine SumOK.of_leads tab_ok (fun ar os r ha hr => ?_) ⟨Try.f42, rfl, by decide, rfl⟩
  replace hr : r42 (R53_AboutF R13_Back R53_Quoted) ar (conts os) = some r := hr
  unfold r42 at hr
  generalize hc : conts os = C at hr
  replace hr := dV.elim hr; obtain ⟨v0, l1, y0, rfl, e0, hr⟩ := hr; obtain rfl := uvicmp_Message_eq _ _ e0
  replace hr := dFin hr; obtain ⟨rfl, rfl, x, h, rfl⟩ := hr
  obtain rfl := kinds_nil hc
  exact ⟨_, rfl, leads42 R13_Back R53_Quoted hS _ x h⟩
def R53_About : icmp_Message → Option (api_Tuple × Bool) := R53_AboutF R13_Back R53_Quoted
theorem lift42 : SumOK Try.prog 42 (s42 R53_About) := ok42 R13_Back R53_Quoted (SumsOK.of_tab ⟨lift46, lift40, trivial⟩)
def icmp_overF (ipfour_Pseudo : api_Addr → api_Addr → Int → Int → Option (List UInt8)) (src : api_Addr) (dst : api_Addr) (n : Int) : Option ((List UInt8) × Bool) :=
  (ipfour_Pseudo src dst 58 n).bind fun p =>
  cond (p == [])
    (
    some ((p, !(p == []))))
    (
    cond (src.V6)
      (
      some ((p, !(p == []))))
      (
      some (([], true))))
def rx87 (x : (List UInt8) × Bool) : SRes := ⟨.tuple ⟨[.string ⟨⟨x.1⟩⟩, .bool x.2]⟩, [], []⟩
def r87 (g : api_Addr → api_Addr → Int → Option ((List UInt8) × Bool)) : Dec := dV uvapi_Addr fun (y0 : api_Addr) => dV uvapi_Addr fun (y1 : api_Addr) => dV (asI .i64) fun (y2 : Int) => dEnd (ofG (g y0 y1 y2) rx87)
theorem r87_c {g : api_Addr → api_Addr → Int → Option ((List UInt8) × Bool)} {y0 : api_Addr} {y1 : api_Addr} {y2 : Int} {x : (List UInt8) × Bool} (hx : g y0 y1 y2 = some x) : r87 g [.agg ⟨[.bool y0.V6, .int .u64 y0.Hi, .int .u64 y0.Lo]⟩, .agg ⟨[.bool y1.V6, .int .u64 y1.Hi, .int .u64 y1.Lo]⟩, .int .i64 y2] [] = some (rx87 x) := (dV_eq (uvapi_Addr_c _)).trans ((dV_eq (uvapi_Addr_c _)).trans ((dV_eq (asI_c _)).trans (ofG_eq hx)))
def s87 (g : api_Addr → api_Addr → Int → Option ((List UInt8) × Bool)) : Summ := ⟨[.v, .v, .v], r87 g⟩
theorem r87_eq {g : api_Addr → api_Addr → Int → Option ((List UInt8) × Bool)} {y0 : api_Addr} {y1 : api_Addr} {y2 : Int} {x : (List UInt8) × Bool} (hx : g y0 y1 y2 = some x) : (s87 g).run [.agg ⟨[.bool y0.V6, .int .u64 y0.Hi, .int .u64 y0.Lo]⟩, .agg ⟨[.bool y1.V6, .int .u64 y1.Hi, .int .u64 y1.Lo]⟩, .int .i64 y2] [] = some (rx87 x) := r87_c hx
abbrev sums87 (ipfour_Pseudo : api_Addr → api_Addr → Int → Int → Option (List UInt8)) : List (Nat × Summ) := [(27, s27 ipfour_Pseudo)]
theorem leads87 (ipfour_Pseudo : api_Addr → api_Addr → Int → Int → Option (List UInt8)) (hS : SumsOK Try.prog (aget (sums87 ipfour_Pseudo))) (src : api_Addr) (dst : api_Addr) (n : Int) (res : (List UInt8) × Bool) (h : icmp_overF ipfour_Pseudo src dst n = some res) :
    Leads Try.prog 87 0 ⟨⟨87, 22, [(0, .agg ⟨[.bool src.V6, .int .u64 src.Hi, .int .u64 src.Lo]⟩), (1, .agg ⟨[.bool dst.V6, .int .u64 dst.Hi, .int .u64 dst.Lo]⟩), (2, .int .i64 n)], [.code k87_11], [], false, none⟩, [], [], 0⟩ (fun v H _ => Res 0 (rx87 res) v H) := by
  unfold icmp_overF at h
  refine ev_ok tab_ok hS true 3000 ?_
  conv => whnf
  replace h := obind.elim h; obtain ⟨p, hy, h⟩ := h
  refine sumK.q rfl rfl (r27_eq hy) rfl rfl rfl ?_
  conv => whnf
  refine br.h h ?_ ?_ ?_
  · rfl
  · clear h; intro hb h; conv => whnf
    all_goals (cases h; exact Res.z rfl rfl rfl)
  clear h; intro hb h; conv => whnf
  refine br.h h ?_ ?_ ?_
  · rfl
  · clear h; intro hb h; conv => whnf
    all_goals (cases h; exact Res.z rfl rfl rfl)
  clear h; intro hb h; conv => whnf
  all_goals (cases h; exact Res.z rfl rfl rfl)
theorem ok87 (ipfour_Pseudo : api_Addr → api_Addr → Int → Int → Option (List UInt8)) (hS : SumsOK Try.prog (aget (sums87 ipfour_Pseudo))) : SumOK Try.prog 87 (s87 (icmp_overF ipfour_Pseudo)) := by
  refine SumOK.of_leads tab_ok (fun ar os r ha hr => ?_) ⟨Try.f87, rfl, by decide, rfl⟩
  replace hr : r87 (icmp_overF ipfour_Pseudo) ar (conts os) = some r := hr
  unfold r87 at hr
  generalize hc : conts os = C at hr
  replace hr := dV.elim hr; obtain ⟨v0, l1, y0, rfl, e0, hr⟩ := hr; obtain rfl := uvapi_Addr_eq _ _ e0
  replace hr := dV.elim hr; obtain ⟨v1, l2, y1, rfl, e1, hr⟩ := hr; obtain rfl := uvapi_Addr_eq _ _ e1
  replace hr := dV.elim hr; obtain ⟨v2, l3, y2, rfl, e2, hr⟩ := hr; obtain rfl := asI_eq _ _ _ e2
  replace hr := dFin hr; obtain ⟨rfl, rfl, x, h, rfl⟩ := hr
  obtain rfl := kinds_nil hc
  exact ⟨_, rfl, leads87 ipfour_Pseudo hS _ _ _ x h⟩
def icmp_over : api_Addr → api_Addr → Int → Option ((List UInt8) × Bool) := icmp_overF ipfour_Pseudo
theorem lift87 : SumOK Try.prog 87 (s87 icmp_over) := ok87 ipfour_Pseudo (SumsOK.of_tab ⟨lift27, trivial⟩)
def icmp_withinF (n : Int) (most : Int) : Option Bool :=
  cond (decide (0 ≤ n))
    (
    some (decide (n ≤ most)))
    (
    some (false))
def rx121 (x : Bool) : SRes := ⟨.bool x, [], []⟩
def r121 (g : Int → Int → Option Bool) : Dec := dV (asI .i64) fun (y0 : Int) => dV (asI .i64) fun (y1 : Int) => dEnd (ofG (g y0 y1) rx121)
theorem r121_c {g : Int → Int → Option Bool} {y0 : Int} {y1 : Int} {x : Bool} (hx : g y0 y1 = some x) : r121 g [.int .i64 y0, .int .i64 y1] [] = some (rx121 x) := (dV_eq (asI_c _)).trans ((dV_eq (asI_c _)).trans (ofG_eq hx))
def s121 (g : Int → Int → Option Bool) : Summ := ⟨[.v, .v], r121 g⟩
theorem r121_eq {g : Int → Int → Option Bool} {y0 : Int} {y1 : Int} {x : Bool} (hx : g y0 y1 = some x) : (s121 g).run [.int .i64 y0, .int .i64 y1] [] = some (rx121 x) := r121_c hx
abbrev sums121 : List (Nat × Summ) := []
theorem leads121 (hS : SumsOK Try.prog (aget (sums121))) (n : Int) (most : Int) (res : Bool) (h : icmp_withinF n most = some res) :
    Leads Try.prog 121 0 ⟨⟨121, 12, [(0, .int .i64 n), (1, .int .i64 most)], [.code k121_3], [], false, none⟩, [], [], 0⟩ (fun v H _ => Res 0 (rx121 res) v H) := by
  unfold icmp_withinF at h
  refine ev_ok tab_ok hS true 3000 ?_
  conv => whnf
  refine br.h h ?_ ?_ ?_
  · rfl
  · clear h; intro hb h; conv => whnf
    all_goals (cases h; exact Res.z rfl rfl rfl)
  clear h; intro hb h; conv => whnf
  all_goals (cases h; exact Res.z rfl rfl rfl)
theorem ok121 (hS : SumsOK Try.prog (aget (sums121))) : SumOK Try.prog 121 (s121 (icmp_withinF)) := by
  refine SumOK.of_leads tab_ok (fun ar os r ha hr => ?_) ⟨Try.f121, rfl, by decide, rfl⟩
  replace hr : r121 (icmp_withinF) ar (conts os) = some r := hr
  unfold r121 at hr
  generalize hc : conts os = C at hr
  replace hr := dV.elim hr; obtain ⟨v0, l1, y0, rfl, e0, hr⟩ := hr; obtain rfl := asI_eq _ _ _ e0
  replace hr := dV.elim hr; obtain ⟨v1, l2, y1, rfl, e1, hr⟩ := hr; obtain rfl := asI_eq _ _ _ e1
  replace hr := dFin hr; obtain ⟨rfl, rfl, x, h, rfl⟩ := hr
  obtain rfl := kinds_nil hc
  exact ⟨_, rfl, leads121 hS _ _ x h⟩
def icmp_within : Int → Int → Option Bool := icmp_withinF
theorem lift121 : SumOK Try.prog 121 (s121 icmp_within) := ok121 (SumsOK.of_tab trivial)
def icmp_fitsF (kind : Int) (code : Int) (v6 : Bool) : Option Bool :=
  cond (kind == 2)
    (
    cond (v6)
      (
      some (code == 0))
      (
      some (code == 4)))
    (
    cond (kind == 1)
      (
      cond (!v6)
        (
        some (code != 4))
        (
        some (true)))
      (
      some (true)))
def rx122 (x : Bool) : SRes := ⟨.bool x, [], []⟩
def r122 (g : Int → Int → Bool → Option Bool) : Dec := dV (asI .i64) fun (y0 : Int) => dV (asI .i64) fun (y1 : Int) => dV asB fun (y2 : Bool) => dEnd (ofG (g y0 y1 y2) rx122)
theorem r122_c {g : Int → Int → Bool → Option Bool} {y0 : Int} {y1 : Int} {y2 : Bool} {x : Bool} (hx : g y0 y1 y2 = some x) : r122 g [.int .i64 y0, .int .i64 y1, .bool y2] [] = some (rx122 x) := (dV_eq (asI_c _)).trans ((dV_eq (asI_c _)).trans ((dV_eq (asB_c)).trans (ofG_eq hx)))
def s122 (g : Int → Int → Bool → Option Bool) : Summ := ⟨[.v, .v, .v], r122 g⟩
theorem r122_eq {g : Int → Int → Bool → Option Bool} {y0 : Int} {y1 : Int} {y2 : Bool} {x : Bool} (hx : g y0 y1 y2 = some x) : (s122 g).run [.int .i64 y0, .int .i64 y1, .bool y2] [] = some (rx122 x) := r122_c hx
abbrev sums122 : List (Nat × Summ) := []
theorem leads122 (hS : SumsOK Try.prog (aget (sums122))) (kind : Int) (code : Int) (v6 : Bool) (res : Bool) (h : icmp_fitsF kind code v6 = some res) :
    Leads Try.prog 122 0 ⟨⟨122, 29, [(0, .int .i64 kind), (1, .int .i64 code), (2, .bool v6)], [.code k122_20], [], false, none⟩, [], [], 0⟩ (fun v H _ => Res 0 (rx122 res) v H) := by
  unfold icmp_fitsF at h
  refine ev_ok tab_ok hS true 3000 ?_
  conv => whnf
  refine br.h h ?_ ?_ ?_
  · rfl
  · clear h; intro hb h; conv => whnf
    refine br.h h ?_ ?_ ?_
    · rfl
    · clear h; intro hb h; conv => whnf
      all_goals (cases h; exact Res.z rfl rfl rfl)
    clear h; intro hb h; conv => whnf
    refine br.pos ?_ ?_; (focus (clear h; first | assumption | (simp_all; done)))
    conv => whnf
    all_goals (cases h; exact Res.z rfl rfl rfl)
  clear h; intro hb h; conv => whnf
  refine br.neg ?_ ?_; (focus (clear h; first | assumption | (simp_all; done)))
  conv => whnf
  refine br.h2 h ?_ ?_ ?_
  · rfl
  · clear h; intro hb h; conv => whnf
    all_goals (cases h; exact Res.z rfl rfl rfl)
  clear h; intro hb h; conv => whnf
  refine br.h h ?_ ?_ ?_
  · rfl
  · clear h; intro hb h; conv => whnf
    all_goals (cases h; exact Res.z rfl rfl rfl)
  clear h; intro hb h; conv => whnf
  all_goals (cases h; exact Res.z rfl rfl rfl)
theorem ok122 (hS : SumsOK Try.prog (aget (sums122))) : SumOK Try.prog 122 (s122 (icmp_fitsF)) := by
  refine SumOK.of_leads tab_ok (fun ar os r ha hr => ?_) ⟨Try.f122, rfl, by decide, rfl⟩
  replace hr : r122 (icmp_fitsF) ar (conts os) = some r := hr
  unfold r122 at hr
  generalize hc : conts os = C at hr
  replace hr := dV.elim hr; obtain ⟨v0, l1, y0, rfl, e0, hr⟩ := hr; obtain rfl := asI_eq _ _ _ e0
  replace hr := dV.elim hr; obtain ⟨v1, l2, y1, rfl, e1, hr⟩ := hr; obtain rfl := asI_eq _ _ _ e1
  replace hr := dV.elim hr; obtain ⟨v2, l3, y2, rfl, e2, hr⟩ := hr; obtain rfl := asB_eq _ _ e2
  replace hr := dFin hr; obtain ⟨rfl, rfl, x, h, rfl⟩ := hr
  obtain rfl := kinds_nil hc
  exact ⟨_, rfl, leads122 hS _ _ _ x h⟩
def icmp_fits : Int → Int → Bool → Option Bool := icmp_fitsF
theorem lift122 : SumOK Try.prog 122 (s122 icmp_fits) := ok122 (SumsOK.of_tab trivial)
def icmp_Message_mayF (icmp_fits : Int → Int → Bool → Option Bool) (icmp_within : Int → Int → Option Bool) (m : icmp_Message) (v6 : Bool) : Option Bool :=
  cond (decide (m.Kind < 1))
    (
    some (false))
    (
    cond (decide (m.Kind > 3))
      (
      some (false))
      (
      (icmp_within m.Code 255).bind fun w =>
      cond (!w)
        (
        some (false))
        (
        (icmp_within m.MTU 65535).bind fun w1 =>
        cond (!w1)
          (
          some (false))
          (
          cond (decide ((m.Quote.length : Int) > 1232))
            (
            some (false))
            (
            (icmp_fits m.Kind m.Code v6).bind fun f =>
            cond (f)
              (
              cond (m.Kind == 2)
                (
                some (true))
                (
                some (m.MTU == 0)))
              (
              some (false)))))))
def rx88 (x : Bool) : SRes := ⟨.bool x, [], []⟩
def r88 (g : icmp_Message → Bool → Option Bool) : Dec := dV uvicmp_Message fun (y0 : icmp_Message) => dV asB fun (y1 : Bool) => dEnd (ofG (g y0 y1) rx88)
theorem r88_c {g : icmp_Message → Bool → Option Bool} {y0 : icmp_Message} {y1 : Bool} {x : Bool} (hx : g y0 y1 = some x) : r88 g [.agg ⟨[.int .i64 y0.Kind, .int .i64 y0.Code, .int .i64 y0.MTU, .string ⟨⟨y0.Quote⟩⟩]⟩, .bool y1] [] = some (rx88 x) := (dV_eq (uvicmp_Message_c _)).trans ((dV_eq (asB_c)).trans (ofG_eq hx))
def s88 (g : icmp_Message → Bool → Option Bool) : Summ := ⟨[.v, .v], r88 g⟩
theorem r88_eq {g : icmp_Message → Bool → Option Bool} {y0 : icmp_Message} {y1 : Bool} {x : Bool} (hx : g y0 y1 = some x) : (s88 g).run [.agg ⟨[.int .i64 y0.Kind, .int .i64 y0.Code, .int .i64 y0.MTU, .string ⟨⟨y0.Quote⟩⟩]⟩, .bool y1] [] = some (rx88 x) := r88_c hx
abbrev sums88 (icmp_fits : Int → Int → Bool → Option Bool) (icmp_within : Int → Int → Option Bool) : List (Nat × Summ) := [(122, s122 icmp_fits), (121, s121 icmp_within)]
theorem leads88 (icmp_fits : Int → Int → Bool → Option Bool) (icmp_within : Int → Int → Option Bool) (hS : SumsOK Try.prog (aget (sums88 icmp_fits icmp_within))) (m : icmp_Message) (v6 : Bool) (res : Bool) (h : icmp_Message_mayF icmp_fits icmp_within m v6 = some res) :
    Leads Try.prog 88 0 ⟨⟨88, 47, [(0, .agg ⟨[.int .i64 m.Kind, .int .i64 m.Code, .int .i64 m.MTU, .string ⟨⟨m.Quote⟩⟩]⟩), (1, .bool v6)], [.code k88_9], [], false, none⟩, [], [], 0⟩ (fun v H _ => Res 0 (rx88 res) v H) := by
  unfold icmp_Message_mayF at h
  refine ev_ok tab_ok hS true 3000 ?_
  conv => whnf
  refine br.h h ?_ ?_ ?_
  · rfl
  · clear h; intro hb h; conv => whnf
    all_goals (cases h; exact Res.z rfl rfl rfl)
  clear h; intro hb h; conv => whnf
  refine br.h h ?_ ?_ ?_
  · rfl
  · clear h; intro hb h; conv => whnf
    all_goals (cases h; exact Res.z rfl rfl rfl)
  clear h; intro hb h; conv => whnf
  replace h := obind.elim h; obtain ⟨w, hy, h⟩ := h
  refine sumK.q rfl rfl (r121_eq hy) rfl rfl rfl ?_
  conv => whnf
  refine br.h h ?_ ?_ ?_
  · rfl
  · clear h; intro hb h; conv => whnf
    all_goals (cases h; exact Res.z rfl rfl rfl)
  clear h; intro hb h; conv => whnf
  replace h := obind.elim h; obtain ⟨w1, hy, h⟩ := h
  refine sumK.q rfl rfl (r121_eq hy) rfl rfl rfl ?_
  conv => whnf
  refine br.h h ?_ ?_ ?_
  · rfl
  · clear h; intro hb h; conv => whnf
    all_goals (cases h; exact Res.z rfl rfl rfl)
  clear h; intro hb h; conv => whnf
  refine br.h h ?_ ?_ ?_
  · rfl
  · clear h; intro hb h; conv => whnf
    all_goals (cases h; exact Res.z rfl rfl rfl)
  clear h; intro hb h; conv => whnf
  replace h := obind.elim h; obtain ⟨f, hy, h⟩ := h
  refine sumK.q rfl rfl (r122_eq hy) rfl rfl rfl ?_
  conv => whnf
  refine br.h2 h ?_ ?_ ?_
  · rfl
  · clear h; intro hb h; conv => whnf
    all_goals (cases h; exact Res.z rfl rfl rfl)
  clear h; intro hb h; conv => whnf
  refine br.h h ?_ ?_ ?_
  · rfl
  · clear h; intro hb h; conv => whnf
    all_goals (cases h; exact Res.z rfl rfl rfl)
  clear h; intro hb h; conv => whnf
  all_goals (cases h; exact Res.z rfl rfl rfl)
theorem ok88 (icmp_fits : Int → Int → Bool → Option Bool) (icmp_within : Int → Int → Option Bool) (hS : SumsOK Try.prog (aget (sums88 icmp_fits icmp_within))) : SumOK Try.prog 88 (s88 (icmp_Message_mayF icmp_fits icmp_within)) := by
  refine SumOK.of_leads tab_ok (fun ar os r ha hr => ?_) ⟨Try.f88, rfl, by decide, rfl⟩
  replace hr : r88 (icmp_Message_mayF icmp_fits icmp_within) ar (conts os) = some r := hr
  unfold r88 at hr
  generalize hc : conts os = C at hr
  replace hr := dV.elim hr; obtain ⟨v0, l1, y0, rfl, e0, hr⟩ := hr; obtain rfl := uvicmp_Message_eq _ _ e0
  replace hr := dV.elim hr; obtain ⟨v1, l2, y1, rfl, e1, hr⟩ := hr; obtain rfl := asB_eq _ _ e1
  replace hr := dFin hr; obtain ⟨rfl, rfl, x, h, rfl⟩ := hr
  obtain rfl := kinds_nil hc
  exact ⟨_, rfl, leads88 icmp_fits icmp_within hS _ _ x h⟩
def icmp_Message_may : icmp_Message → Bool → Option Bool := icmp_Message_mayF icmp_fits icmp_within
theorem lift88 : SumOK Try.prog 88 (s88 icmp_Message_may) := ok88 icmp_fits icmp_within (SumsOK.of_tab ⟨lift122, lift121, trivial⟩)
def icmp_typesF : Option Arr4_Arr2_Int :=
  some (Arr4_Arr2_Int.mk (Arr2_Int.mk (-1) (-1)) (Arr2_Int.mk 3 1) (Arr2_Int.mk 3 2) (Arr2_Int.mk 11 3))
def rx89 (x : Arr4_Arr2_Int) : SRes := ⟨.agg ⟨[.int .i64 x.e0.e0, .int .i64 x.e0.e1, .int .i64 x.e1.e0, .int .i64 x.e1.e1, .int .i64 x.e2.e0, .int .i64 x.e2.e1, .int .i64 x.e3.e0, .int .i64 x.e3.e1]⟩, [], []⟩
def r89 (g : Option Arr4_Arr2_Int) : Dec := dEnd (ofG (g) rx89)
theorem r89_c {g : Option Arr4_Arr2_Int} {x : Arr4_Arr2_Int} (hx : g = some x) : r89 g [] [] = some (rx89 x) := ofG_eq hx
def s89 (g : Option Arr4_Arr2_Int) : Summ := ⟨[], r89 g⟩
theorem r89_eq {g : Option Arr4_Arr2_Int} {x : Arr4_Arr2_Int} (hx : g = some x) : (s89 g).run [] [] = some (rx89 x) := r89_c hx
abbrev sums89 : List (Nat × Summ) := []
theorem leads89 (hS : SumsOK Try.prog (aget (sums89))) (res : Arr4_Arr2_Int) (h : icmp_typesF = some res) :
    Leads Try.prog 89 0 ⟨⟨89, 6, [], [.code k89_3], [], false, none⟩, [], [], 0⟩ (fun v H _ => Res 0 (rx89 res) v H) := by
  unfold icmp_typesF at h
  refine ev_ok tab_ok hS true 3000 ?_
  conv => whnf
  all_goals (cases h; exact Res.z rfl rfl rfl)
theorem ok89 (hS : SumsOK Try.prog (aget (sums89))) : SumOK Try.prog 89 (s89 (icmp_typesF)) := by
  refine SumOK.of_leads tab_ok (fun ar os r ha hr => ?_) ⟨Try.f89, rfl, by decide, rfl⟩
  replace hr : r89 (icmp_typesF) ar (conts os) = some r := hr
  unfold r89 at hr
  generalize hc : conts os = C at hr
  replace hr := dFin hr; obtain ⟨rfl, rfl, x, h, rfl⟩ := hr
  obtain rfl := kinds_nil hc
  exact ⟨_, rfl, leads89 hS x h⟩
def icmp_types : Option Arr4_Arr2_Int := icmp_typesF
theorem lift89 : SumOK Try.prog 89 (s89 icmp_types) := ok89 (SumsOK.of_tab trivial)
def icmp_sideF (v6 : Bool) : Option Int :=
  cond (v6)
    (
    some (1))
    (
    some (0))
def rx90 (x : Int) : SRes := ⟨.int .i64 x, [], []⟩
def r90 (g : Bool → Option Int) : Dec := dV asB fun (y0 : Bool) => dEnd (ofG (g y0) rx90)
theorem r90_c {g : Bool → Option Int} {y0 : Bool} {x : Int} (hx : g y0 = some x) : r90 g [.bool y0] [] = some (rx90 x) := (dV_eq (asB_c)).trans (ofG_eq hx)
def s90 (g : Bool → Option Int) : Summ := ⟨[.v], r90 g⟩
theorem r90_eq {g : Bool → Option Int} {y0 : Bool} {x : Int} (hx : g y0 = some x) : (s90 g).run [.bool y0] [] = some (rx90 x) := r90_c hx
abbrev sums90 : List (Nat × Summ) := []
theorem leads90 (hS : SumsOK Try.prog (aget (sums90))) (v6 : Bool) (res : Int) (h : icmp_sideF v6 = some res) :
    Leads Try.prog 90 0 ⟨⟨90, 4, [(0, .bool v6)], [.code k90_9], [], false, none⟩, [], [], 0⟩ (fun v H _ => Res 0 (rx90 res) v H) := by
  unfold icmp_sideF at h
  refine ev_ok tab_ok hS true 3000 ?_
  conv => whnf
  refine br.h h ?_ ?_ ?_
  · rfl
  · clear h; intro hb h; conv => whnf
    all_goals (cases h; exact Res.z rfl rfl rfl)
  clear h; intro hb h; conv => whnf
  all_goals (cases h; exact Res.z rfl rfl rfl)
theorem ok90 (hS : SumsOK Try.prog (aget (sums90))) : SumOK Try.prog 90 (s90 (icmp_sideF)) := by
  refine SumOK.of_leads tab_ok (fun ar os r ha hr => ?_) ⟨Try.f90, rfl, by decide, rfl⟩
  replace hr : r90 (icmp_sideF) ar (conts os) = some r := hr
  unfold r90 at hr
  generalize hc : conts os = C at hr
  replace hr := dV.elim hr; obtain ⟨v0, l1, y0, rfl, e0, hr⟩ := hr; obtain rfl := asB_eq _ _ e0
  replace hr := dFin hr; obtain ⟨rfl, rfl, x, h, rfl⟩ := hr
  obtain rfl := kinds_nil hc
  exact ⟨_, rfl, leads90 hS _ x h⟩
def icmp_side : Bool → Option Int := icmp_sideF
theorem lift90 : SumOK Try.prog 90 (s90 icmp_side) := ok90 (SumsOK.of_tab trivial)
def icmp_PutF (check_Of : (List UInt8) → Option Int) (check_Set : (List UInt8) → Int → Int → Int → Option (List UInt8)) (icmp_Message_may : icmp_Message → Bool → Option Bool) (icmp_over : api_Addr → api_Addr → Int → Option ((List UInt8) × Bool)) (icmp_side : Bool → Option Int) (icmp_types : Option Arr4_Arr2_Int) (octet_Put : Int → Int → Option (List UInt8)) (m : icmp_Message) (src : api_Addr) (dst : api_Addr) : Option ((List UInt8) × Int) :=
  (icmp_over src dst (wI .i64 (8 + (m.Quote.length : Int)))).bind fun xo =>
  cond (!xo.2)
    (
    some (([], 1)))
    (
    (icmp_Message_may m src.V6).bind fun m1 =>
    cond (!m1)
      (
      some (([], 1)))
      (
      (icmp_types).bind fun t =>
      oreq (decide (0 ≤ m.Kind ∧ m.Kind < 4)) <|
      ([udp_Head.mk t.e0.e0 t.e0.e1, udp_Head.mk t.e1.e0 t.e1.e1, udp_Head.mk t.e2.e0 t.e2.e1, udp_Head.mk t.e3.e0 t.e3.e1][m.Kind.toNat]?).bind fun (e : udp_Head) =>
      (icmp_side src.V6).bind fun s =>
      oreq (decide (0 ≤ s ∧ s < 2)) <|
      ([e.SPort, e.DPort][s.toNat]?).bind fun (e1 : Int) =>
      let t1 := iorI .u64 (wI .u64 ((wI .u64 e1) * 2 ^ 8)) (wI .u64 m.Code)
      (octet_Put t1 2).bind fun p =>
      (octet_Put (wI .u64 m.MTU) 6).bind fun p1 =>
      oreq (decide (p.length + p1.length < 2 ^ 63)) <|
      oreq (decide ((p ++ p1).length + m.Quote.length < 2 ^ 63)) <|
      oreq (decide (xo.1.length + ((p ++ p1) ++ m.Quote).length < 2 ^ 63)) <|
      (check_Of (xo.1 ++ ((p ++ p1) ++ m.Quote))).bind fun xo1 =>
      (check_Set ((p ++ p1) ++ m.Quote) 2 2 (wI .u64 xo1)).bind fun s1 =>
      some ((s1, 0))))
def rx31 (x : (List UInt8) × Int) : SRes := ⟨.tuple ⟨[.string ⟨⟨x.1⟩⟩, .int .i64 x.2]⟩, [], []⟩
def r31 (g : icmp_Message → api_Addr → api_Addr → Option ((List UInt8) × Int)) : Dec := dV uvicmp_Message fun (y0 : icmp_Message) => dV uvapi_Addr fun (y1 : api_Addr) => dV uvapi_Addr fun (y2 : api_Addr) => dEnd (ofG (g y0 y1 y2) rx31)
theorem r31_c {g : icmp_Message → api_Addr → api_Addr → Option ((List UInt8) × Int)} {y0 : icmp_Message} {y1 : api_Addr} {y2 : api_Addr} {x : (List UInt8) × Int} (hx : g y0 y1 y2 = some x) : r31 g [.agg ⟨[.int .i64 y0.Kind, .int .i64 y0.Code, .int .i64 y0.MTU, .string ⟨⟨y0.Quote⟩⟩]⟩, .agg ⟨[.bool y1.V6, .int .u64 y1.Hi, .int .u64 y1.Lo]⟩, .agg ⟨[.bool y2.V6, .int .u64 y2.Hi, .int .u64 y2.Lo]⟩] [] = some (rx31 x) := (dV_eq (uvicmp_Message_c _)).trans ((dV_eq (uvapi_Addr_c _)).trans ((dV_eq (uvapi_Addr_c _)).trans (ofG_eq hx)))
def s31 (g : icmp_Message → api_Addr → api_Addr → Option ((List UInt8) × Int)) : Summ := ⟨[.v, .v, .v], r31 g⟩
theorem r31_eq {g : icmp_Message → api_Addr → api_Addr → Option ((List UInt8) × Int)} {y0 : icmp_Message} {y1 : api_Addr} {y2 : api_Addr} {x : (List UInt8) × Int} (hx : g y0 y1 y2 = some x) : (s31 g).run [.agg ⟨[.int .i64 y0.Kind, .int .i64 y0.Code, .int .i64 y0.MTU, .string ⟨⟨y0.Quote⟩⟩]⟩, .agg ⟨[.bool y1.V6, .int .u64 y1.Hi, .int .u64 y1.Lo]⟩, .agg ⟨[.bool y2.V6, .int .u64 y2.Hi, .int .u64 y2.Lo]⟩] [] = some (rx31 x) := r31_c hx
abbrev sums31 (check_Of : (List UInt8) → Option Int) (check_Set : (List UInt8) → Int → Int → Int → Option (List UInt8)) (icmp_Message_may : icmp_Message → Bool → Option Bool) (icmp_over : api_Addr → api_Addr → Int → Option ((List UInt8) × Bool)) (icmp_side : Bool → Option Int) (icmp_types : Option Arr4_Arr2_Int) (octet_Put : Int → Int → Option (List UInt8)) : List (Nat × Summ) := [(64, s64 check_Of), (65, s65 check_Set), (88, s88 icmp_Message_may), (87, s87 icmp_over), (90, s90 icmp_side), (89, s89 icmp_types), (62, s62 octet_Put)]
theorem leads31 (check_Of : (List UInt8) → Option Int) (check_Set : (List UInt8) → Int → Int → Int → Option (List UInt8)) (icmp_Message_may : icmp_Message → Bool → Option Bool) (icmp_over : api_Addr → api_Addr → Int → Option ((List UInt8) × Bool)) (icmp_side : Bool → Option Int) (icmp_types : Option Arr4_Arr2_Int) (octet_Put : Int → Int → Option (List UInt8)) (hS : SumsOK Try.prog (aget (sums31 check_Of check_Set icmp_Message_may icmp_over icmp_side icmp_types octet_Put))) (m : icmp_Message) (src : api_Addr) (dst : api_Addr) (res : (List UInt8) × Int) (h : icmp_PutF check_Of check_Set icmp_Message_may icmp_over icmp_side icmp_types octet_Put m src dst = some res) :
    Leads Try.prog 31 0 ⟨⟨31, 62, [(0, .agg ⟨[.int .i64 m.Kind, .int .i64 m.Code, .int .i64 m.MTU, .string ⟨⟨m.Quote⟩⟩]⟩), (1, .agg ⟨[.bool src.V6, .int .u64 src.Hi, .int .u64 src.Lo]⟩), (2, .agg ⟨[.bool dst.V6, .int .u64 dst.Hi, .int .u64 dst.Lo]⟩)], [.code k31_15], [], false, none⟩, [], [], 0⟩ (fun v H _ => Res 0 (rx31 res) v H) := by
  unfold icmp_PutF at h
  refine ev_ok tab_ok hS true 3000 ?_
  conv => whnf
  replace h := obind.elim h; obtain ⟨xo, hy, h⟩ := h
  refine sumK.q rfl rfl (r87_eq hy) rfl rfl rfl ?_
  conv => whnf
  refine br.h h ?_ ?_ ?_
  · rfl
  · clear h; intro hb h; conv => whnf
    all_goals (cases h; exact Res.z rfl rfl rfl)
  clear h; intro hb h; conv => whnf
  replace h := obind.elim h; obtain ⟨m1, hy, h⟩ := h
  refine sumK.q rfl rfl (r88_eq hy) rfl rfl rfl ?_
  conv => whnf
  refine br.h h ?_ ?_ ?_
  · rfl
  · clear h; intro hb h; conv => whnf
    all_goals (cases h; exact Res.z rfl rfl rfl)
  clear h; intro hb h; conv => whnf
  replace h := obind.elim h; obtain ⟨t, hy, h⟩ := h
  refine sumK.q rfl rfl (r89_eq hy) rfl rfl rfl ?_
  conv => whnf
  replace h := oreq.elim h; obtain ⟨hb, h⟩ := h
  replace h := obind.elim h; obtain ⟨e, hy, h⟩ := h
  refine ix_T (xs := [udp_Head.mk t.e0.e0 t.e0.e1, udp_Head.mk t.e1.e0 t.e1.e1, udp_Head.mk t.e2.e0 t.e2.e1, udp_Head.mk t.e3.e0 t.e3.e1]) cudp_Head_len hb hy rfl rfl ?_
  conv => whnf
  replace h := obind.elim h; obtain ⟨s, hy, h⟩ := h
  refine sumK.q rfl rfl (r90_eq hy) rfl rfl rfl ?_
  conv => whnf
  replace h := oreq.elim h; obtain ⟨hb, h⟩ := h
  first | (refine req.intro hb ?_; conv => whnf) | skip
  replace h := obind.elim h; obtain ⟨e1, hy, h⟩ := h
  refine rd.I hy (by first | rfl | (rw [Nat.zero_add, Nat.mul_one]; done) | omega) ?_
  conv => whnf
  let t1 : Int := iorI .u64 (wI .u64 ((wI .u64 e1) * 2 ^ 8)) (wI .u64 m.Code)
  replace h := obind.elim h; obtain ⟨p, hy, h⟩ := h
  refine sumK.q rfl rfl (r62_eq hy) rfl rfl rfl ?_
  conv => whnf
  replace h := obind.elim h; obtain ⟨p1, hy, h⟩ := h
  refine sumK.q rfl rfl (r62_eq hy) rfl rfl rfl ?_
  conv => whnf
  replace h := oreq.elim h; obtain ⟨hb, h⟩ := h
  first | (refine req.intro hb ?_; conv => whnf) | skip
  replace h := oreq.elim h; obtain ⟨hb, h⟩ := h
  first | (refine req.intro hb ?_; conv => whnf) | skip
  replace h := oreq.elim h; obtain ⟨hb, h⟩ := h
  first | (refine req.intro hb ?_; conv => whnf) | skip
  replace h := obind.elim h; obtain ⟨xo1, hy, h⟩ := h
  refine sumK.q rfl rfl (r64_eq hy) rfl rfl rfl ?_
  conv => whnf
  replace h := obind.elim h; obtain ⟨s1, hy, h⟩ := h
  refine sumK.q rfl rfl (r65_eq hy) rfl rfl rfl ?_
  conv => whnf
  all_goals (cases h; exact Res.z rfl rfl rfl)
theorem ok31 (check_Of : (List UInt8) → Option Int) (check_Set : (List UInt8) → Int → Int → Int → Option (List UInt8)) (icmp_Message_may : icmp_Message → Bool → Option Bool) (icmp_over : api_Addr → api_Addr → Int → Option ((List UInt8) × Bool)) (icmp_side : Bool → Option Int) (icmp_types : Option Arr4_Arr2_Int) (octet_Put : Int → Int → Option (List UInt8)) (hS : SumsOK Try.prog (aget (sums31 check_Of check_Set icmp_Message_may icmp_over icmp_side icmp_types octet_Put))) : SumOK Try.prog 31 (s31 (icmp_PutF check_Of check_Set icmp_Message_may icmp_over icmp_side icmp_types octet_Put)) := by
  refine SumOK.of_leads tab_ok (fun ar os r ha hr => ?_) ⟨Try.f31, rfl, by decide, rfl⟩
  replace hr : r31 (icmp_PutF check_Of check_Set icmp_Message_may icmp_over icmp_side icmp_types octet_Put) ar (conts os) = some r := hr
  unfold r31 at hr
  generalize hc : conts os = C at hr
  replace hr := dV.elim hr; obtain ⟨v0, l1, y0, rfl, e0, hr⟩ := hr; obtain rfl := uvicmp_Message_eq _ _ e0
  replace hr := dV.elim hr; obtain ⟨v1, l2, y1, rfl, e1, hr⟩ := hr; obtain rfl := uvapi_Addr_eq _ _ e1
  replace hr := dV.elim hr; obtain ⟨v2, l3, y2, rfl, e2, hr⟩ := hr; obtain rfl := uvapi_Addr_eq _ _ e2
  replace hr := dFin hr; obtain ⟨rfl, rfl, x, h, rfl⟩ := hr
  obtain rfl := kinds_nil hc
  exact ⟨_, rfl, leads31 check_Of check_Set icmp_Message_may icmp_over icmp_side icmp_types octet_Put hS _ _ _ x h⟩
def icmp_Put : icmp_Message → api_Addr → api_Addr → Option ((List UInt8) × Int) := icmp_PutF check_Of check_Set icmp_Message_may icmp_over icmp_side icmp_types octet_Put
theorem lift31 : SumOK Try.prog 31 (s31 icmp_Put) := ok31 check_Of check_Set icmp_Message_may icmp_over icmp_side icmp_types octet_Put (SumsOK.of_tab ⟨lift64, lift65, lift88, lift87, lift90, lift89, lift62, trivial⟩)
end Go.Vm.Code
