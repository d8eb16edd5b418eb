import Derived.Test.YtdnhoocoofnibaaVmLift
import Derived.Test.YtdnhoocoofnibaaCodeI
namespace Go.Vm.Code
open Go Go.Vm Go.Proofs
set_option maxRecDepth 100000
set_option maxHeartbeats 4000000
set_option linter.unusedVariables false
@[ext] structure icmp_Message where
  Kind : Int
  Code : Int
  MTU : Int
  Quote : List UInt8
  deriving DecidableEq
@[ext] structure api_Addr where
  V6 : Bool
  Hi : Int
  Lo : Int
  deriving DecidableEq
@[ext] structure octet_Reader where
  s : List UInt8
  made : Bool
  bad : Bool
  deriving DecidableEq
@[ext] structure Arr2_Int where
  e0 : Int
  e1 : Int
  deriving DecidableEq
@[ext] structure Arr4_Arr2_Int where
  e0 : Arr2_Int
  e1 : Arr2_Int
  e2 : Arr2_Int
  e3 : Arr2_Int
  deriving DecidableEq
@[ext] structure runtime_errorAddressString where
  msg : List UInt8
  addr : Int
  deriving DecidableEq
@[ext] structure udp_Head where
  SPort : Int
  DPort : Int
  deriving DecidableEq
@[ext] structure ipsix_Head where
  Class : Int
  Label : Int
  Next : Int
  Hop : Int
  Src : api_Addr
  Dst : api_Addr
  deriving DecidableEq
@[ext] structure ipfour_Head where
  Class : Int
  Mark : Int
  Whole : Bool
  TTL : Int
  Proto : Int
  Src : api_Addr
  Dst : api_Addr
  Options : List UInt8
  deriving DecidableEq
@[ext] structure api_Tuple where
  Proto : Int
  Src : api_Addr
  Dst : api_Addr
  SPort : Int
  DPort : Int
  deriving DecidableEq
@[ext] structure tcp_Head where
  SPort : Int
  DPort : Int
  Seq : Int
  Ack : Int
  Flags : Int
  Window : Int
  Urgent : Int
  Options : List UInt8
  deriving DecidableEq
def cicmp_Message (x : icmp_Message) : List Value := [.int .i64 x.Kind, .int .i64 x.Code, .int .i64 x.MTU, .string ⟨⟨x.Quote⟩⟩]
theorem cicmp_Message_len (x : icmp_Message) : (cicmp_Message x).length = 4 := rfl
theorem cicmp_Message_flat (x : icmp_Message) : flatV.flatL (cicmp_Message x) = true := rfl
theorem cicmp_Message_one (x : icmp_Message) : (cicmp_Message x).all oneC = true := rfl
@[simp] theorem cicmp_Message_lens (xs : List icmp_Message) : (vT cicmp_Message xs).length = xs.length * 4 := vT_len cicmp_Message_len xs
@[simp] theorem cicmp_Message_take (xs : List icmp_Message) (n : Nat) : (vT cicmp_Message xs).take (n * 4) = vT cicmp_Message (xs.take n) := vT_take cicmp_Message_len xs n
@[simp] theorem cicmp_Message_drop (xs : List icmp_Message) (n : Nat) : (vT cicmp_Message xs).drop (n * 4) = vT cicmp_Message (xs.drop n) := vT_drop cicmp_Message_len xs n
def unicmp_Message : List Value → Option icmp_Message
  | [.int .i64 a1, .int .i64 a2, .int .i64 a3, .string ⟨⟨a4⟩⟩] => some (icmp_Message.mk a1 a2 a3 a4)
  | _ => none
theorem unicmp_Message_eq (cs : List Value) (x : icmp_Message) (h : unicmp_Message cs = some x) : cs = cicmp_Message x := by
  unfold unicmp_Message at h; split at h
  · cases h; rfl
  · cases h
theorem unicmp_Message_c (x : icmp_Message) : unicmp_Message (cicmp_Message x) = some x := rfl
def uvicmp_Message : Value → Option icmp_Message
  | .agg ⟨cs⟩ => unicmp_Message cs
  | _ => none
theorem uvicmp_Message_eq (v : Value) (x : icmp_Message) (h : uvicmp_Message v = some x) : v = .agg ⟨cicmp_Message x⟩ := by
  unfold uvicmp_Message at h; split at h
  · rw [unicmp_Message_eq _ _ h]
  · cases h
theorem uvicmp_Message_c (x : icmp_Message) : uvicmp_Message (.agg ⟨cicmp_Message x⟩) = some x := rfl
def capi_Addr (x : api_Addr) : List Value := [.bool x.V6, .int .u64 x.Hi, .int .u64 x.Lo]
theorem capi_Addr_len (x : api_Addr) : (capi_Addr x).length = 3 := rfl
theorem capi_Addr_flat (x : api_Addr) : flatV.flatL (capi_Addr x) = true := rfl
theorem capi_Addr_one (x : api_Addr) : (capi_Addr x).all oneC = true := rfl
@[simp] theorem capi_Addr_lens (xs : List api_Addr) : (vT capi_Addr xs).length = xs.length * 3 := vT_len capi_Addr_len xs
@[simp] theorem capi_Addr_take (xs : List api_Addr) (n : Nat) : (vT capi_Addr xs).take (n * 3) = vT capi_Addr (xs.take n) := vT_take capi_Addr_len xs n
@[simp] theorem capi_Addr_drop (xs : List api_Addr) (n : Nat) : (vT capi_Addr xs).drop (n * 3) = vT capi_Addr (xs.drop n) := vT_drop capi_Addr_len xs n
def unapi_Addr : List Value → Option api_Addr
  | [.bool a1, .int .u64 a2, .int .u64 a3] => some (api_Addr.mk a1 a2 a3)
  | _ => none
theorem unapi_Addr_eq (cs : List Value) (x : api_Addr) (h : unapi_Addr cs = some x) : cs = capi_Addr x := by
  unfold unapi_Addr at h; split at h
  · cases h; rfl
  · cases h
theorem unapi_Addr_c (x : api_Addr) : unapi_Addr (capi_Addr x) = some x := rfl
def uvapi_Addr : Value → Option api_Addr
  | .agg ⟨cs⟩ => unapi_Addr cs
  | _ => none
theorem uvapi_Addr_eq (v : Value) (x : api_Addr) (h : uvapi_Addr v = some x) : v = .agg ⟨capi_Addr x⟩ := by
  unfold uvapi_Addr at h; split at h
  · rw [unapi_Addr_eq _ _ h]
  · cases h
theorem uvapi_Addr_c (x : api_Addr) : uvapi_Addr (.agg ⟨capi_Addr x⟩) = some x := rfl
def coctet_Reader (x : octet_Reader) : List Value := [.string ⟨⟨x.s⟩⟩, .bool x.made, .bool x.bad]
theorem coctet_Reader_len (x : octet_Reader) : (coctet_Reader x).length = 3 := rfl
theorem coctet_Reader_flat (x : octet_Reader) : flatV.flatL (coctet_Reader x) = true := rfl
theorem coctet_Reader_one (x : octet_Reader) : (coctet_Reader x).all oneC = true := rfl
@[simp] theorem coctet_Reader_lens (xs : List octet_Reader) : (vT coctet_Reader xs).length = xs.length * 3 := vT_len coctet_Reader_len xs
@[simp] theorem coctet_Reader_take (xs : List octet_Reader) (n : Nat) : (vT coctet_Reader xs).take (n * 3) = vT coctet_Reader (xs.take n) := vT_take coctet_Reader_len xs n
@[simp] theorem coctet_Reader_drop (xs : List octet_Reader) (n : Nat) : (vT coctet_Reader xs).drop (n * 3) = vT coctet_Reader (xs.drop n) := vT_drop coctet_Reader_len xs n
def unoctet_Reader : List Value → Option octet_Reader
  | [.string ⟨⟨a1⟩⟩, .bool a2, .bool a3] => some (octet_Reader.mk a1 a2 a3)
  | _ => none
theorem unoctet_Reader_eq (cs : List Value) (x : octet_Reader) (h : unoctet_Reader cs = some x) : cs = coctet_Reader x := by
  unfold unoctet_Reader at h; split at h
  · cases h; rfl
  · cases h
theorem unoctet_Reader_c (x : octet_Reader) : unoctet_Reader (coctet_Reader x) = some x := rfl
def uvoctet_Reader : Value → Option octet_Reader
  | .agg ⟨cs⟩ => unoctet_Reader cs
  | _ => none
theorem uvoctet_Reader_eq (v : Value) (x : octet_Reader) (h : uvoctet_Reader v = some x) : v = .agg ⟨coctet_Reader x⟩ := by
  unfold uvoctet_Reader at h; split at h
  · rw [unoctet_Reader_eq _ _ h]
  · cases h
theorem uvoctet_Reader_c (x : octet_Reader) : uvoctet_Reader (.agg ⟨coctet_Reader x⟩) = some x := rfl
def cArr2_Int (x : Arr2_Int) : List Value := [.int .i64 x.e0, .int .i64 x.e1]
theorem cArr2_Int_len (x : Arr2_Int) : (cArr2_Int x).length = 2 := rfl
theorem cArr2_Int_flat (x : Arr2_Int) : flatV.flatL (cArr2_Int x) = true := rfl
theorem cArr2_Int_one (x : Arr2_Int) : (cArr2_Int x).all oneC = true := rfl
@[simp] theorem cArr2_Int_lens (xs : List Arr2_Int) : (vT cArr2_Int xs).length = xs.length * 2 := vT_len cArr2_Int_len xs
@[simp] theorem cArr2_Int_take (xs : List Arr2_Int) (n : Nat) : (vT cArr2_Int xs).take (n * 2) = vT cArr2_Int (xs.take n) := vT_take cArr2_Int_len xs n
@[simp] theorem cArr2_Int_drop (xs : List Arr2_Int) (n : Nat) : (vT cArr2_Int xs).drop (n * 2) = vT cArr2_Int (xs.drop n) := vT_drop cArr2_Int_len xs n
def unArr2_Int : List Value → Option Arr2_Int
  | [.int .i64 a1, .int .i64 a2] => some (Arr2_Int.mk a1 a2)
  | _ => none
theorem unArr2_Int_eq (cs : List Value) (x : Arr2_Int) (h : unArr2_Int cs = some x) : cs = cArr2_Int x := by
  unfold unArr2_Int at h; split at h
  · cases h; rfl
  · cases h
theorem unArr2_Int_c (x : Arr2_Int) : unArr2_Int (cArr2_Int x) = some x := rfl
def uvArr2_Int : Value → Option Arr2_Int
  | .agg ⟨cs⟩ => unArr2_Int cs
  | _ => none
theorem uvArr2_Int_eq (v : Value) (x : Arr2_Int) (h : uvArr2_Int v = some x) : v = .agg ⟨cArr2_Int x⟩ := by
  unfold uvArr2_Int at h; split at h
  · rw [unArr2_Int_eq _ _ h]
  · cases h
theorem uvArr2_Int_c (x : Arr2_Int) : uvArr2_Int (.agg ⟨cArr2_Int x⟩) = some x := rfl
def cArr4_Arr2_Int (x : Arr4_Arr2_Int) : List Value := [.int .i64 x.e0.e0, .int .i64 x.e0.e1, .int .i64 x.e1.e0, .int .i64 x.e1.e1, .int .i64 x.e2.e0, .int .i64 x.e2.e1, .int .i64 x.e3.e0, .int .i64 x.e3.e1]
theorem cArr4_Arr2_Int_len (x : Arr4_Arr2_Int) : (cArr4_Arr2_Int x).length = 8 := rfl
theorem cArr4_Arr2_Int_flat (x : Arr4_Arr2_Int) : flatV.flatL (cArr4_Arr2_Int x) = true := rfl
theorem cArr4_Arr2_Int_one (x : Arr4_Arr2_Int) : (cArr4_Arr2_Int x).all oneC = true := rfl
@[simp] theorem cArr4_Arr2_Int_lens (xs : List Arr4_Arr2_Int) : (vT cArr4_Arr2_Int xs).length = xs.length * 8 := vT_len cArr4_Arr2_Int_len xs
@[simp] theorem cArr4_Arr2_Int_take (xs : List Arr4_Arr2_Int) (n : Nat) : (vT cArr4_Arr2_Int xs).take (n * 8) = vT cArr4_Arr2_Int (xs.take n) := vT_take cArr4_Arr2_Int_len xs n
@[simp] theorem cArr4_Arr2_Int_drop (xs : List Arr4_Arr2_Int) (n : Nat) : (vT cArr4_Arr2_Int xs).drop (n * 8) = vT cArr4_Arr2_Int (xs.drop n) := vT_drop cArr4_Arr2_Int_len xs n
def unArr4_Arr2_Int : List Value → Option Arr4_Arr2_Int
  | [.int .i64 a1, .int .i64 a2, .int .i64 a3, .int .i64 a4, .int .i64 a5, .int .i64 a6, .int .i64 a7, .int .i64 a8] => some (Arr4_Arr2_Int.mk (Arr2_Int.mk a1 a2) (Arr2_Int.mk a3 a4) (Arr2_Int.mk a5 a6) (Arr2_Int.mk a7 a8))
  | _ => none
theorem unArr4_Arr2_Int_eq (cs : List Value) (x : Arr4_Arr2_Int) (h : unArr4_Arr2_Int cs = some x) : cs = cArr4_Arr2_Int x := by
  unfold unArr4_Arr2_Int at h; split at h
  · cases h; rfl
  · cases h
theorem unArr4_Arr2_Int_c (x : Arr4_Arr2_Int) : unArr4_Arr2_Int (cArr4_Arr2_Int x) = some x := rfl
def uvArr4_Arr2_Int : Value → Option Arr4_Arr2_Int
  | .agg ⟨cs⟩ => unArr4_Arr2_Int cs
  | _ => none
theorem uvArr4_Arr2_Int_eq (v : Value) (x : Arr4_Arr2_Int) (h : uvArr4_Arr2_Int v = some x) : v = .agg ⟨cArr4_Arr2_Int x⟩ := by
  unfold uvArr4_Arr2_Int at h; split at h
  · rw [unArr4_Arr2_Int_eq _ _ h]
  · cases h
theorem uvArr4_Arr2_Int_c (x : Arr4_Arr2_Int) : uvArr4_Arr2_Int (.agg ⟨cArr4_Arr2_Int x⟩) = some x := rfl
def cruntime_errorAddressString (x : runtime_errorAddressString) : List Value := [.string ⟨⟨x.msg⟩⟩, .int .u64 x.addr]
theorem cruntime_errorAddressString_len (x : runtime_errorAddressString) : (cruntime_errorAddressString x).length = 2 := rfl
theorem cruntime_errorAddressString_flat (x : runtime_errorAddressString) : flatV.flatL (cruntime_errorAddressString x) = true := rfl
theorem cruntime_errorAddressString_one (x : runtime_errorAddressString) : (cruntime_errorAddressString x).all oneC = true := rfl
@[simp] theorem cruntime_errorAddressString_lens (xs : List runtime_errorAddressString) : (vT cruntime_errorAddressString xs).length = xs.length * 2 := vT_len cruntime_errorAddressString_len xs
@[simp] theorem cruntime_errorAddressString_take (xs : List runtime_errorAddressString) (n : Nat) : (vT cruntime_errorAddressString xs).take (n * 2) = vT cruntime_errorAddressString (xs.take n) := vT_take cruntime_errorAddressString_len xs n
@[simp] theorem cruntime_errorAddressString_drop (xs : List runtime_errorAddressString) (n : Nat) : (vT cruntime_errorAddressString xs).drop (n * 2) = vT cruntime_errorAddressString (xs.drop n) := vT_drop cruntime_errorAddressString_len xs n
def unruntime_errorAddressString : List Value → Option runtime_errorAddressString
  | [.string ⟨⟨a1⟩⟩, .int .u64 a2] => some (runtime_errorAddressString.mk a1 a2)
  | _ => none
theorem unruntime_errorAddressString_eq (cs : List Value) (x : runtime_errorAddressString) (h : unruntime_errorAddressString cs = some x) : cs = cruntime_errorAddressString x := by
  unfold unruntime_errorAddressString at h; split at h
  · cases h; rfl
  · cases h
theorem unruntime_errorAddressString_c (x : runtime_errorAddressString) : unruntime_errorAddressString (cruntime_errorAddressString x) = some x := rfl
def uvruntime_errorAddressString : Value → Option runtime_errorAddressString
  | .agg ⟨cs⟩ => unruntime_errorAddressString cs
  | _ => none
theorem uvruntime_errorAddressString_eq (v : Value) (x : runtime_errorAddressString) (h : uvruntime_errorAddressString v = some x) : v = .agg ⟨cruntime_errorAddressString x⟩ := by
  unfold uvruntime_errorAddressString at h; split at h
  · rw [unruntime_errorAddressString_eq _ _ h]
  · cases h
theorem uvruntime_errorAddressString_c (x : runtime_errorAddressString) : uvruntime_errorAddressString (.agg ⟨cruntime_errorAddressString x⟩) = some x := rfl
def cudp_Head (x : udp_Head) : List Value := [.int .i64 x.SPort, .int .i64 x.DPort]
theorem cudp_Head_len (x : udp_Head) : (cudp_Head x).length = 2 := rfl
theorem cudp_Head_flat (x : udp_Head) : flatV.flatL (cudp_Head x) = true := rfl
theorem cudp_Head_one (x : udp_Head) : (cudp_Head x).all oneC = true := rfl
@[simp] theorem cudp_Head_lens (xs : List udp_Head) : (vT cudp_Head xs).length = xs.length * 2 := vT_len cudp_Head_len xs
@[simp] theorem cudp_Head_take (xs : List udp_Head) (n : Nat) : (vT cudp_Head xs).take (n * 2) = vT cudp_Head (xs.take n) := vT_take cudp_Head_len xs n
@[simp] theorem cudp_Head_drop (xs : List udp_Head) (n : Nat) : (vT cudp_Head xs).drop (n * 2) = vT cudp_Head (xs.drop n) := vT_drop cudp_Head_len xs n
def unudp_Head : List Value → Option udp_Head
  | [.int .i64 a1, .int .i64 a2] => some (udp_Head.mk a1 a2)
  | _ => none
theorem unudp_Head_eq (cs : List Value) (x : udp_Head) (h : unudp_Head cs = some x) : cs = cudp_Head x := by
  unfold unudp_Head at h; split at h
  · cases h; rfl
  · cases h
theorem unudp_Head_c (x : udp_Head) : unudp_Head (cudp_Head x) = some x := rfl
def uvudp_Head : Value → Option udp_Head
  | .agg ⟨cs⟩ => unudp_Head cs
  | _ => none
theorem uvudp_Head_eq (v : Value) (x : udp_Head) (h : uvudp_Head v = some x) : v = .agg ⟨cudp_Head x⟩ := by
  unfold uvudp_Head at h; split at h
  · rw [unudp_Head_eq _ _ h]
  · cases h
theorem uvudp_Head_c (x : udp_Head) : uvudp_Head (.agg ⟨cudp_Head x⟩) = some x := rfl
def cipsix_Head (x : ipsix_Head) : List Value := [.int .i64 x.Class, .int .i64 x.Label, .int .i64 x.Next, .int .i64 x.Hop, .bool x.Src.V6, .int .u64 x.Src.Hi, .int .u64 x.Src.Lo, .bool x.Dst.V6, .int .u64 x.Dst.Hi, .int .u64 x.Dst.Lo]
theorem cipsix_Head_len (x : ipsix_Head) : (cipsix_Head x).length = 10 := rfl
theorem cipsix_Head_flat (x : ipsix_Head) : flatV.flatL (cipsix_Head x) = true := rfl
theorem cipsix_Head_one (x : ipsix_Head) : (cipsix_Head x).all oneC = true := rfl
@[simp] theorem cipsix_Head_lens (xs : List ipsix_Head) : (vT cipsix_Head xs).length = xs.length * 10 := vT_len cipsix_Head_len xs
@[simp] theorem cipsix_Head_take (xs : List ipsix_Head) (n : Nat) : (vT cipsix_Head xs).take (n * 10) = vT cipsix_Head (xs.take n) := vT_take cipsix_Head_len xs n
@[simp] theorem cipsix_Head_drop (xs : List ipsix_Head) (n : Nat) : (vT cipsix_Head xs).drop (n * 10) = vT cipsix_Head (xs.drop n) := vT_drop cipsix_Head_len xs n
def unipsix_Head : List Value → Option ipsix_Head
  | [.int .i64 a1, .int .i64 a2, .int .i64 a3, .int .i64 a4, .bool a5, .int .u64 a6, .int .u64 a7, .bool a8, .int .u64 a9, .int .u64 a10] => some (ipsix_Head.mk a1 a2 a3 a4 (api_Addr.mk a5 a6 a7) (api_Addr.mk a8 a9 a10))
  | _ => none
theorem unipsix_Head_eq (cs : List Value) (x : ipsix_Head) (h : unipsix_Head cs = some x) : cs = cipsix_Head x := by
  unfold unipsix_Head at h; split at h
  · cases h; rfl
  · cases h
theorem unipsix_Head_c (x : ipsix_Head) : unipsix_Head (cipsix_Head x) = some x := rfl
def uvipsix_Head : Value → Option ipsix_Head
  | .agg ⟨cs⟩ => unipsix_Head cs
  | _ => none
theorem uvipsix_Head_eq (v : Value) (x : ipsix_Head) (h : uvipsix_Head v = some x) : v = .agg ⟨cipsix_Head x⟩ := by
  unfold uvipsix_Head at h; split at h
  · rw [unipsix_Head_eq _ _ h]
  · cases h
theorem uvipsix_Head_c (x : ipsix_Head) : uvipsix_Head (.agg ⟨cipsix_Head x⟩) = some x := rfl
def cipfour_Head (x : ipfour_Head) : List Value := [.int .i64 x.Class, .int .i64 x.Mark, .bool x.Whole, .int .i64 x.TTL, .int .i64 x.Proto, .bool x.Src.V6, .int .u64 x.Src.Hi, .int .u64 x.Src.Lo, .bool x.Dst.V6, .int .u64 x.Dst.Hi, .int .u64 x.Dst.Lo, .string ⟨⟨x.Options⟩⟩]
theorem cipfour_Head_len (x : ipfour_Head) : (cipfour_Head x).length = 12 := rfl
theorem cipfour_Head_flat (x : ipfour_Head) : flatV.flatL (cipfour_Head x) = true := rfl
theorem cipfour_Head_one (x : ipfour_Head) : (cipfour_Head x).all oneC = true := rfl
@[simp] theorem cipfour_Head_lens (xs : List ipfour_Head) : (vT cipfour_Head xs).length = xs.length * 12 := vT_len cipfour_Head_len xs
@[simp] theorem cipfour_Head_take (xs : List ipfour_Head) (n : Nat) : (vT cipfour_Head xs).take (n * 12) = vT cipfour_Head (xs.take n) := vT_take cipfour_Head_len xs n
@[simp] theorem cipfour_Head_drop (xs : List ipfour_Head) (n : Nat) : (vT cipfour_Head xs).drop (n * 12) = vT cipfour_Head (xs.drop n) := vT_drop cipfour_Head_len xs n
def unipfour_Head : List Value → Option ipfour_Head
  | [.int .i64 a1, .int .i64 a2, .bool a3, .int .i64 a4, .int .i64 a5, .bool a6, .int .u64 a7, .int .u64 a8, .bool a9, .int .u64 a10, .int .u64 a11, .string ⟨⟨a12⟩⟩] => some (ipfour_Head.mk a1 a2 a3 a4 a5 (api_Addr.mk a6 a7 a8) (api_Addr.mk a9 a10 a11) a12)
  | _ => none
theorem unipfour_Head_eq (cs : List Value) (x : ipfour_Head) (h : unipfour_Head cs = some x) : cs = cipfour_Head x := by
  unfold unipfour_Head at h; split at h
  · cases h; rfl
  · cases h
theorem unipfour_Head_c (x : ipfour_Head) : unipfour_Head (cipfour_Head x) = some x := rfl
def uvipfour_Head : Value → Option ipfour_Head
  | .agg ⟨cs⟩ => unipfour_Head cs
  | _ => none
theorem uvipfour_Head_eq (v : Value) (x : ipfour_Head) (h : uvipfour_Head v = some x) : v = .agg ⟨cipfour_Head x⟩ := by
  unfold uvipfour_Head at h; split at h
  · rw [unipfour_Head_eq _ _ h]
  · cases h
theorem uvipfour_Head_c (x : ipfour_Head) : uvipfour_Head (.agg ⟨cipfour_Head x⟩) = some x := rfl
def capi_Tuple (x : api_Tuple) : List Value := [.int .i64 x.Proto, .bool x.Src.V6, .int .u64 x.Src.Hi, .int .u64 x.Src.Lo, .bool x.Dst.V6, .int .u64 x.Dst.Hi, .int .u64 x.Dst.Lo, .int .i64 x.SPort, .int .i64 x.DPort]
theorem capi_Tuple_len (x : api_Tuple) : (capi_Tuple x).length = 9 := rfl
theorem capi_Tuple_flat (x : api_Tuple) : flatV.flatL (capi_Tuple x) = true := rfl
theorem capi_Tuple_one (x : api_Tuple) : (capi_Tuple x).all oneC = true := rfl
@[simp] theorem capi_Tuple_lens (xs : List api_Tuple) : (vT capi_Tuple xs).length = xs.length * 9 := vT_len capi_Tuple_len xs
@[simp] theorem capi_Tuple_take (xs : List api_Tuple) (n : Nat) : (vT capi_Tuple xs).take (n * 9) = vT capi_Tuple (xs.take n) := vT_take capi_Tuple_len xs n
@[simp] theorem capi_Tuple_drop (xs : List api_Tuple) (n : Nat) : (vT capi_Tuple xs).drop (n * 9) = vT capi_Tuple (xs.drop n) := vT_drop capi_Tuple_len xs n
def unapi_Tuple : List Value → Option api_Tuple
  | [.int .i64 a1, .bool a2, .int .u64 a3, .int .u64 a4, .bool a5, .int .u64 a6, .int .u64 a7, .int .i64 a8, .int .i64 a9] => some (api_Tuple.mk a1 (api_Addr.mk a2 a3 a4) (api_Addr.mk a5 a6 a7) a8 a9)
  | _ => none
theorem unapi_Tuple_eq (cs : List Value) (x : api_Tuple) (h : unapi_Tuple cs = some x) : cs = capi_Tuple x := by
  unfold unapi_Tuple at h; split at h
  · cases h; rfl
  · cases h
theorem unapi_Tuple_c (x : api_Tuple) : unapi_Tuple (capi_Tuple x) = some x := rfl
def uvapi_Tuple : Value → Option api_Tuple
  | .agg ⟨cs⟩ => unapi_Tuple cs
  | _ => none
theorem uvapi_Tuple_eq (v : Value) (x : api_Tuple) (h : uvapi_Tuple v = some x) : v = .agg ⟨capi_Tuple x⟩ := by
  unfold uvapi_Tuple at h; split at h
  · rw [unapi_Tuple_eq _ _ h]
  · cases h
theorem uvapi_Tuple_c (x : api_Tuple) : uvapi_Tuple (.agg ⟨capi_Tuple x⟩) = some x := rfl
def ctcp_Head (x : tcp_Head) : List Value := [.int .i64 x.SPort, .int .i64 x.DPort, .int .u32 x.Seq, .int .u32 x.Ack, .int .i64 x.Flags, .int .i64 x.Window, .int .i64 x.Urgent, .string ⟨⟨x.Options⟩⟩]
theorem ctcp_Head_len (x : tcp_Head) : (ctcp_Head x).length = 8 := rfl
theorem ctcp_Head_flat (x : tcp_Head) : flatV.flatL (ctcp_Head x) = true := rfl
theorem ctcp_Head_one (x : tcp_Head) : (ctcp_Head x).all oneC = true := rfl
@[simp] theorem ctcp_Head_lens (xs : List tcp_Head) : (vT ctcp_Head xs).length = xs.length * 8 := vT_len ctcp_Head_len xs
@[simp] theorem ctcp_Head_take (xs : List tcp_Head) (n : Nat) : (vT ctcp_Head xs).take (n * 8) = vT ctcp_Head (xs.take n) := vT_take ctcp_Head_len xs n
@[simp] theorem ctcp_Head_drop (xs : List tcp_Head) (n : Nat) : (vT ctcp_Head xs).drop (n * 8) = vT ctcp_Head (xs.drop n) := vT_drop ctcp_Head_len xs n
def untcp_Head : List Value → Option tcp_Head
  | [.int .i64 a1, .int .i64 a2, .int .u32 a3, .int .u32 a4, .int .i64 a5, .int .i64 a6, .int .i64 a7, .string ⟨⟨a8⟩⟩] => some (tcp_Head.mk a1 a2 a3 a4 a5 a6 a7 a8)
  | _ => none
theorem untcp_Head_eq (cs : List Value) (x : tcp_Head) (h : untcp_Head cs = some x) : cs = ctcp_Head x := by
  unfold untcp_Head at h; split at h
  · cases h; rfl
  · cases h
theorem untcp_Head_c (x : tcp_Head) : untcp_Head (ctcp_Head x) = some x := rfl
def uvtcp_Head : Value → Option tcp_Head
  | .agg ⟨cs⟩ => untcp_Head cs
  | _ => none
theorem uvtcp_Head_eq (v : Value) (x : tcp_Head) (h : uvtcp_Head v = some x) : v = .agg ⟨ctcp_Head x⟩ := by
  unfold uvtcp_Head at h; split at h
  · rw [untcp_Head_eq _ _ h]
  · cases h
theorem uvtcp_Head_c (x : tcp_Head) : uvtcp_Head (.agg ⟨ctcp_Head x⟩) = some x := rfl
def check_fold_s1 (n1 : Int) : Option (Sum Int Int) :=
  cond (decide (n1 > 65535))
    (
    let t := wI .i64 ((andI .i64 n1 65535) + (n1.fdiv (2 ^ 16)))
    some (.inl t))
    (
    some (.inr (n1)))
def check_foldF (n : Int) : Option Int :=
  iter (fun st => check_fold_s1 st) FUEL n
def rx131 (x : Int) : SRes := ⟨.int .i64 x, [], []⟩
def r131 (g : Int → Option Int) : Dec := dV (asI .i64) fun (y0 : Int) => dEnd (ofG (g y0) rx131)
theorem r131_c {g : Int → Option Int} {y0 : Int} {x : Int} (hx : g y0 = some x) : r131 g [.int .i64 y0] [] = some (rx131 x) := (dV_eq (asI_c _)).trans (ofG_eq hx)
def s131 (g : Int → Option Int) : Summ := ⟨[.v], r131 g⟩
theorem r131_eq {g : Int → Option Int} {y0 : Int} {x : Int} (hx : g y0 = some x) : (s131 g).run [.int .i64 y0] [] = some (rx131 x) := r131_c hx
abbrev sums131 : List (Nat × Summ) := []
def head131_1 (n1 : Int) : VM :=
  ⟨⟨131, 11, [(0, .int .i64 n1)], [.code k131_6, .inLoop k131_6, .inBlock 0, .code k131_10], [], false, none⟩, [], [], 0⟩
theorem loop131_1 (hS : SumsOK Try.prog (aget (sums131))) (res : Int) : ∀ fuel (st : Int) (o : Int), iter (fun st => check_fold_s1 st) fuel st = some o → (o = res) →
    Leads Try.prog 131 0 (head131_1 st) (fun v H _ => Res 0 (rx131 res) v H) := by
  intro fuel st o h hc
  refine iter_leads (head := fun st => head131_1 st) (C := fun o => (o = res)) ?_ fuel st o h hc
  clear h hc o st fuel
  intro n1 o h hc
  replace h : check_fold_s1 n1 = some o := h
  show Leads Try.prog 131 0 (head131_1 n1) (fun v H _ => Res 0 (rx131 res) v H)
  unfold check_fold_s1 at h
  refine ev_ok tab_ok hS true 3000 ?_
  conv => whnf
  refine br.h2 h ?_ ?_ ?_
  · rfl
  · clear h; intro hb h; conv => whnf
    all_goals (cases h; cases hc; exact Res.z rfl rfl rfl)
  clear h; intro hb h; conv => whnf
  let t : Int := wI .i64 ((andI .i64 n1 65535) + (n1.fdiv (2 ^ 16)))
  cases h; simp only [Sum.elim_inl, head131_1] at hc
  refine Leads.re hc [] rfl ?_ ?_ <;> (repeat' first | exact trivial | refine ⟨⟨_, rfl, rfl⟩, ?_⟩ | refine ⟨⟨_, _, rfl, rfl, .rowF (vI_flat _ _) id⟩, ?_⟩ | refine ⟨⟨_, _, rfl, rfl, .rowF (vS_flat _) id⟩, ?_⟩ | refine ⟨⟨_, _, rfl, rfl, .rowF (vB_flat _) id⟩, ?_⟩ | refine ⟨⟨_, _, rfl, rfl, .rowF (vT_flat (by first | exact cicmp_Message_flat | exact capi_Addr_flat | exact coctet_Reader_flat | exact cArr2_Int_flat | exact cArr4_Arr2_Int_flat | exact cruntime_errorAddressString_flat | exact cudp_Head_flat | exact cipsix_Head_flat | exact cipfour_Head_flat | exact capi_Tuple_flat | exact ctcp_Head_flat) _) id⟩, ?_⟩ | refine ⟨⟨_, _, rfl, rfl, .tyF (vI_flat _ _)⟩, ?_⟩ | refine ⟨⟨_, _, rfl, rfl, .ty rfl⟩, ?_⟩ | refine ⟨⟨_, _, rfl, rfl, .cells rfl⟩, ?_⟩ | refine ⟨⟨_, _, rfl, rfl, .row rfl id⟩, ?_⟩ | refine ⟨⟨_, _, rfl, rfl, .cr rfl⟩, ?_⟩ | refine ⟨⟨_, _, rfl, rfl, .rc rfl⟩, ?_⟩ | refine ⟨⟨_, _, rfl, rfl, .marks⟩, ?_⟩ | refine ⟨⟨_, _, rfl, rfl, .siter _ _⟩, ?_⟩ | refine ⟨⟨_, _, rfl, rfl, .loop rfl rfl rfl rfl (by repeat' first | exact trivial | refine ⟨rfl, ?_⟩) rfl rfl rfl rfl⟩, ?_⟩)
theorem leads131 (hS : SumsOK Try.prog (aget (sums131))) (n : Int) (res : Int) (h : check_foldF n = some res) :
    Leads Try.prog 131 0 ⟨⟨131, 11, [(0, .int .i64 n)], [.code k131_12], [], false, none⟩, [], [], 0⟩ (fun v H _ => Res 0 (rx131 res) v H) := by
  unfold check_foldF at h
  refine ev_ok tab_ok hS true 3000 ?_
  conv => whnf
  have hl := loop131_1 hS res _ _ _ h rfl; simp only [head131_1] at hl
  refine Leads.re hl [] rfl ?_ ?_ <;> (repeat' first | exact trivial | refine ⟨⟨_, rfl, rfl⟩, ?_⟩ | refine ⟨⟨_, _, rfl, rfl, .rowF (vI_flat _ _) id⟩, ?_⟩ | refine ⟨⟨_, _, rfl, rfl, .rowF (vS_flat _) id⟩, ?_⟩ | refine ⟨⟨_, _, rfl, rfl, .rowF (vB_flat _) id⟩, ?_⟩ | refine ⟨⟨_, _, rfl, rfl, .rowF (vT_flat (by first | exact cicmp_Message_flat | exact capi_Addr_flat | exact coctet_Reader_flat | exact cArr2_Int_flat | exact cArr4_Arr2_Int_flat | exact cruntime_errorAddressString_flat | exact cudp_Head_flat | exact cipsix_Head_flat | exact cipfour_Head_flat | exact capi_Tuple_flat | exact ctcp_Head_flat) _) id⟩, ?_⟩ | refine ⟨⟨_, _, rfl, rfl, .tyF (vI_flat _ _)⟩, ?_⟩ | refine ⟨⟨_, _, rfl, rfl, .ty rfl⟩, ?_⟩ | refine ⟨⟨_, _, rfl, rfl, .cells rfl⟩, ?_⟩ | refine ⟨⟨_, _, rfl, rfl, .row rfl id⟩, ?_⟩ | refine ⟨⟨_, _, rfl, rfl, .cr rfl⟩, ?_⟩ | refine ⟨⟨_, _, rfl, rfl, .rc rfl⟩, ?_⟩ | refine ⟨⟨_, _, rfl, rfl, .marks⟩, ?_⟩ | refine ⟨⟨_, _, rfl, rfl, .siter _ _⟩, ?_⟩ | refine ⟨⟨_, _, rfl, rfl, .loop rfl rfl rfl rfl (by repeat' first | exact trivial | refine ⟨rfl, ?_⟩) rfl rfl rfl rfl⟩, ?_⟩)
theorem ok131 (hS : SumsOK Try.prog (aget (sums131))) : SumOK Try.prog 131 (s131 (check_foldF)) := by
  refine SumOK.of_leads tab_ok (fun ar os r ha hr => ?_) ⟨Try.f131, rfl, by decide, rfl⟩
  replace hr : r131 (check_foldF) ar (conts os) = some r := hr
  unfold r131 at hr
  generalize hc : conts os = C at hr
  replace hr := dV.elim hr; obtain ⟨v0, l1, y0, rfl, e0, hr⟩ := hr; obtain rfl := asI_eq _ _ _ e0
  replace hr := dFin hr; obtain ⟨rfl, rfl, x, h, rfl⟩ := hr
  obtain rfl := kinds_nil hc
  exact ⟨_, rfl, leads131 hS _ x h⟩
def check_fold : Int → Option Int := check_foldF
theorem lift131 : SumOK Try.prog 131 (s131 check_fold) := ok131 (SumsOK.of_tab trivial)
def check_Sum_s1 (check_fold : Int → Option Int) (s : List UInt8) (xat : Int) (n : Int) : Option (Sum (Int × Int) Int) :=
  cond (decide (xat < (s.length : Int)))
    (
    oreq (decide (0 ≤ xat)) <|
    (s[xat.toNat]?).bind fun (b : UInt8) =>
    let t := wI .i64 ((wI .i64 (b.toNat : Int)) * 2 ^ 8)
    let t1 := decide ((wI .i64 (xat + 1)) < (s.length : Int))
    cond (t1)
      (
      oreq (decide (0 ≤ (wI .i64 (xat + 1)))) <|
      (s[(wI .i64 (xat + 1)).toNat]?).bind fun (b1 : UInt8) =>
      let t2 := wI .i64 (n + (iorI .i64 t (wI .i64 (b1.toNat : Int))))
      (check_fold t2).bind fun f =>
      some (.inl (wI .i64 (xat + 2), f)))
      (
      (check_fold (wI .i64 (n + t))).bind fun f1 =>
      some (.inl (wI .i64 (xat + 2), f1))))
    (
    some (.inr (n)))
def check_SumF (check_fold : Int → Option Int) (s : List UInt8) : Option Int :=
  iter (fun st => check_Sum_s1 check_fold s st.1 st.2) FUEL (0, 0)
def rx113 (x : Int) : SRes := ⟨.int .i64 x, [], []⟩
def r113 (g : (List UInt8) → Option Int) : Dec := dV asS fun (y0 : List UInt8) => dEnd (ofG (g y0) rx113)
theorem r113_c {g : (List UInt8) → Option Int} {y0 : List UInt8} {x : Int} (hx : g y0 = some x) : r113 g [.string ⟨⟨y0⟩⟩] [] = some (rx113 x) := (dV_eq (asS_c)).trans (ofG_eq hx)
def s113 (g : (List UInt8) → Option Int) : Summ := ⟨[.v], r113 g⟩
theorem r113_eq {g : (List UInt8) → Option Int} {y0 : List UInt8} {x : Int} (hx : g y0 = some x) : (s113 g).run [.string ⟨⟨y0⟩⟩] [] = some (rx113 x) := r113_c hx
abbrev sums113 (check_fold : Int → Option Int) : List (Nat × Summ) := [(131, s131 check_fold)]
def head113_1 (s : List UInt8) (xat : Int) (n : Int) : VM :=
  ⟨⟨133, 32, [(0, .func (.yield 3) #[] #[]), (1, .pointer (some ⟨1, 0, none⟩)), (3, .int .i64 xat)], [.code k133_17, .inLoop k133_17, .inBlock 0], [], false, none⟩, [⟨113, 13, [(3, .pointer (some ⟨0, 0, none⟩))], [.inRangeFunc 3, .inBlock 0, .code k113_10], [2], false, none⟩], [(0, .cells [.int .i64 n]), (1, .cells [.string ⟨⟨s⟩⟩]), (2, .marks), (3, .loop ⟨.ready, none, 113, 13, [(3, .pointer (some ⟨0, 0, none⟩))], [7], k113_3, k113_5, 2⟩)], 4⟩
theorem loop113_1 (check_fold : Int → Option Int) (hS : SumsOK Try.prog (aget (sums113 check_fold))) (s : List UInt8) (res : Int) : ∀ fuel (st : Int × Int) (o : Int), iter (fun st => check_Sum_s1 check_fold s st.1 st.2) fuel st = some o → (o = res) →
    Leads Try.prog 113 0 (head113_1 s st.1 st.2) (fun v H _ => Res 0 (rx113 res) v H) := by
  intro fuel st o h hc
  refine iter_leads (head := fun st => head113_1 s st.1 st.2) (C := fun o => (o = res)) ?_ fuel st o h hc
  clear h hc o st fuel
  intro st o h hc
  obtain ⟨xat, n⟩ := st
  replace h : check_Sum_s1 check_fold s xat n = some o := h
  show Leads Try.prog 113 0 (head113_1 s xat n) (fun v H _ => Res 0 (rx113 res) v H)
  unfold check_Sum_s1 at h
  refine ev_ok tab_ok hS true 3000 ?_
  conv => whnf
  refine br.h2 h ?_ ?_ ?_
  · rfl
  · clear h; intro hb h; conv => whnf
    all_goals (cases h; cases hc; exact Res.z rfl rfl rfl)
  clear h; intro hb h; conv => whnf
  replace h := oreq.elim h; obtain ⟨hb, h⟩ := h
  first | (refine req.intro hb ?_; conv => whnf) | skip
  replace h := obind.elim h; obtain ⟨b, hy, h⟩ := h
  refine rdS.intro hy ?_
  conv => whnf
  let t : Int := wI .i64 ((wI .i64 (b.toNat : Int)) * 2 ^ 8)
  let t1 : Bool := decide ((wI .i64 (xat + 1)) < (s.length : Int))
  refine br.h2 h ?_ ?_ ?_
  · rfl
  · clear h; intro hb h; conv => whnf
    replace h := obind.elim h; obtain ⟨f1, hy, h⟩ := h
    refine sumK.q rfl rfl (r131_eq hy) rfl rfl rfl ?_
    conv => whnf
    cases h; simp only [Sum.elim_inl, head113_1] at hc
    refine Leads.re hc [(0, 0), (1, 1), (2, 2), (3, 3)] rfl ?_ ?_ (hu := by repeat' first | exact trivial | refine ⟨⟨rfl, rfl, rfl, rfl, rfl, ?_, rfl, rfl⟩, ?_⟩ | refine ⟨⟨_, rfl, rfl⟩, ?_⟩) <;> (repeat' first | exact trivial | refine ⟨⟨_, rfl, rfl⟩, ?_⟩ | refine ⟨⟨_, _, rfl, rfl, .rowF (vI_flat _ _) id⟩, ?_⟩ | refine ⟨⟨_, _, rfl, rfl, .rowF (vS_flat _) id⟩, ?_⟩ | refine ⟨⟨_, _, rfl, rfl, .rowF (vB_flat _) id⟩, ?_⟩ | refine ⟨⟨_, _, rfl, rfl, .rowF (vT_flat (by first | exact cicmp_Message_flat | exact capi_Addr_flat | exact coctet_Reader_flat | exact cArr2_Int_flat | exact cArr4_Arr2_Int_flat | exact cruntime_errorAddressString_flat | exact cudp_Head_flat | exact cipsix_Head_flat | exact cipfour_Head_flat | exact capi_Tuple_flat | exact ctcp_Head_flat) _) id⟩, ?_⟩ | refine ⟨⟨_, _, rfl, rfl, .tyF (vI_flat _ _)⟩, ?_⟩ | refine ⟨⟨_, _, rfl, rfl, .ty rfl⟩, ?_⟩ | refine ⟨⟨_, _, rfl, rfl, .cells rfl⟩, ?_⟩ | refine ⟨⟨_, _, rfl, rfl, .row rfl id⟩, ?_⟩ | refine ⟨⟨_, _, rfl, rfl, .cr rfl⟩, ?_⟩ | refine ⟨⟨_, _, rfl, rfl, .rc rfl⟩, ?_⟩ | refine ⟨⟨_, _, rfl, rfl, .marks⟩, ?_⟩ | refine ⟨⟨_, _, rfl, rfl, .siter _ _⟩, ?_⟩ | refine ⟨⟨_, _, rfl, rfl, .loop rfl rfl rfl rfl (by repeat' first | exact trivial | refine ⟨rfl, ?_⟩) rfl rfl rfl rfl⟩, ?_⟩)
  clear h; intro hb h; conv => whnf
  replace h := oreq.elim h; obtain ⟨hb, h⟩ := h
  first | (refine req.intro hb ?_; conv => whnf) | skip
  replace h := obind.elim h; obtain ⟨b1, hy, h⟩ := h
  refine rdS.intro hy ?_
  conv => whnf
  let t2 : Int := wI .i64 (n + (iorI .i64 t (wI .i64 (b1.toNat : Int))))
  replace h := obind.elim h; obtain ⟨f, hy, h⟩ := h
  refine sumK.q rfl rfl (r131_eq hy) rfl rfl rfl ?_
  conv => whnf
  cases h; simp only [Sum.elim_inl, head113_1] at hc
  refine Leads.re hc [(0, 0), (1, 1), (2, 2), (3, 3)] rfl ?_ ?_ (hu := by repeat' first | exact trivial | refine ⟨⟨rfl, rfl, rfl, rfl, rfl, ?_, rfl, rfl⟩, ?_⟩ | refine ⟨⟨_, rfl, rfl⟩, ?_⟩) <;> (repeat' first | exact trivial | refine ⟨⟨_, rfl, rfl⟩, ?_⟩ | refine ⟨⟨_, _, rfl, rfl, .rowF (vI_flat _ _) id⟩, ?_⟩ | refine ⟨⟨_, _, rfl, rfl, .rowF (vS_flat _) id⟩, ?_⟩ | refine ⟨⟨_, _, rfl, rfl, .rowF (vB_flat _) id⟩, ?_⟩ | refine ⟨⟨_, _, rfl, rfl, .rowF (vT_flat (by first | exact cicmp_Message_flat | exact capi_Addr_flat | exact coctet_Reader_flat | exact cArr2_Int_flat | exact cArr4_Arr2_Int_flat | exact cruntime_errorAddressString_flat | exact cudp_Head_flat | exact cipsix_Head_flat | exact cipfour_Head_flat | exact capi_Tuple_flat | exact ctcp_Head_flat) _) id⟩, ?_⟩ | refine ⟨⟨_, _, rfl, rfl, .tyF (vI_flat _ _)⟩, ?_⟩ | refine ⟨⟨_, _, rfl, rfl, .ty rfl⟩, ?_⟩ | refine ⟨⟨_, _, rfl, rfl, .cells rfl⟩, ?_⟩ | refine ⟨⟨_, _, rfl, rfl, .row rfl id⟩, ?_⟩ | refine ⟨⟨_, _, rfl, rfl, .cr rfl⟩, ?_⟩ | refine ⟨⟨_, _, rfl, rfl, .rc rfl⟩, ?_⟩ | refine ⟨⟨_, _, rfl, rfl, .marks⟩, ?_⟩ | refine ⟨⟨_, _, rfl, rfl, .siter _ _⟩, ?_⟩ | refine ⟨⟨_, _, rfl, rfl, .loop rfl rfl rfl rfl (by repeat' first | exact trivial | refine ⟨rfl, ?_⟩) rfl rfl rfl rfl⟩, ?_⟩)
theorem leads113 (check_fold : Int → Option Int) (hS : SumsOK Try.prog (aget (sums113 check_fold))) (s : List UInt8) (res : Int) (h : check_SumF check_fold s = some res) :
    Leads Try.prog 113 0 ⟨⟨113, 13, [(0, .string ⟨⟨s⟩⟩)], [.code k113_13], [], false, none⟩, [], [], 0⟩ (fun v H _ => Res 0 (rx113 res) v H) := by
  unfold check_SumF at h
  refine ev_ok tab_ok hS true 3000 ?_
  conv => whnf
  have hl := loop113_1 check_fold hS _ res _ _ _ h rfl; simp only [head113_1] at hl
  refine Leads.re hl [(0, 0), (1, 1), (2, 2), (3, 3)] rfl ?_ ?_ (hu := by repeat' first | exact trivial | refine ⟨⟨rfl, rfl, rfl, rfl, rfl, ?_, rfl, rfl⟩, ?_⟩ | refine ⟨⟨_, rfl, rfl⟩, ?_⟩) <;> (repeat' first | exact trivial | refine ⟨⟨_, rfl, rfl⟩, ?_⟩ | refine ⟨⟨_, _, rfl, rfl, .rowF (vI_flat _ _) id⟩, ?_⟩ | refine ⟨⟨_, _, rfl, rfl, .rowF (vS_flat _) id⟩, ?_⟩ | refine ⟨⟨_, _, rfl, rfl, .rowF (vB_flat _) id⟩, ?_⟩ | refine ⟨⟨_, _, rfl, rfl, .rowF (vT_flat (by first | exact cicmp_Message_flat | exact capi_Addr_flat | exact coctet_Reader_flat | exact cArr2_Int_flat | exact cArr4_Arr2_Int_flat | exact cruntime_errorAddressString_flat | exact cudp_Head_flat | exact cipsix_Head_flat | exact cipfour_Head_flat | exact capi_Tuple_flat | exact ctcp_Head_flat) _) id⟩, ?_⟩ | refine ⟨⟨_, _, rfl, rfl, .tyF (vI_flat _ _)⟩, ?_⟩ | refine ⟨⟨_, _, rfl, rfl, .ty rfl⟩, ?_⟩ | refine ⟨⟨_, _, rfl, rfl, .cells rfl⟩, ?_⟩ | refine ⟨⟨_, _, rfl, rfl, .row rfl id⟩, ?_⟩ | refine ⟨⟨_, _, rfl, rfl, .cr rfl⟩, ?_⟩ | refine ⟨⟨_, _, rfl, rfl, .rc rfl⟩, ?_⟩ | refine ⟨⟨_, _, rfl, rfl, .marks⟩, ?_⟩ | refine ⟨⟨_, _, rfl, rfl, .siter _ _⟩, ?_⟩ | refine ⟨⟨_, _, rfl, rfl, .loop rfl rfl rfl rfl (by repeat' first | exact trivial | refine ⟨rfl, ?_⟩) rfl rfl rfl rfl⟩, ?_⟩)
theorem ok113 (check_fold : Int → Option Int) (hS : SumsOK Try.prog (aget (sums113 check_fold))) : SumOK Try.prog 113 (s113 (check_SumF check_fold)) := by
  refine SumOK.of_leads tab_ok (fun ar os r ha hr => ?_) ⟨Try.f113, rfl, by decide, rfl⟩
  replace hr : r113 (check_SumF check_fold) ar (conts os) = some r := hr
  unfold r113 at hr
  generalize hc : conts os = C at hr
  replace hr := dV.elim hr; obtain ⟨v0, l1, y0, rfl, e0, hr⟩ := hr; obtain rfl := asS_eq _ _ e0
  replace hr := dFin hr; obtain ⟨rfl, rfl, x, h, rfl⟩ := hr
  obtain rfl := kinds_nil hc
  exact ⟨_, rfl, leads113 check_fold hS _ x h⟩
def check_Sum : (List UInt8) → Option Int := check_SumF check_fold
theorem lift113 : SumOK Try.prog 113 (s113 check_Sum) := ok113 check_fold (SumsOK.of_tab ⟨lift131, trivial⟩)
def octet_Put_s1 (n : Int) (k : Int) (t17 : Int) (b : List Int) : Option (Sum (Int × (List Int)) (List UInt8)) :=
  cond (decide (t17 < (k.toNat : Int)))
    (
    let t := wI .i64 (8 * (wI .i64 ((wI .i64 (k - 1)) - t17)))
    oreq (decide (0 ≤ t)) <|
    oreq (decide ((0 : Int) ≤ t17 ∧ t17 < (k.toNat : Int))) <|
    oreq (decide (t17.toNat < b.length)) <|
    let row := b.set t17.toNat (wI .u8 (n.fdiv (2 ^ (min t.toNat 64))))
    some (.inl (wI .i64 (t17 + 1), row)))
    (
    oreq (decide (k.toNat ≤ b.length)) <|
    some (.inr (iB (b.take k.toNat))))
def octet_PutF (n : Int) (k : Int) : Option (List UInt8) :=
  cond (decide (k < 1))
    (
    some ([]))
    (
    cond (decide (k > 8))
      (
      some ([]))
      (
      oreq (decide (0 ≤ k ∧ k ≤ k ∧ k < 2 ^ 63 ∧ (1 : Int) * k ≤ 2 ^ 48)) <|
      iter (fun st => octet_Put_s1 n k st.1 st.2) FUEL (0, List.replicate k.toNat (0))))
def rx62 (x : List UInt8) : SRes := ⟨.string ⟨⟨x⟩⟩, [], []⟩
def r62 (g : Int → Int → Option (List UInt8)) : Dec := dV (asI .u64) fun (y0 : Int) => dV (asI .i64) fun (y1 : Int) => dEnd (ofG (g y0 y1) rx62)
theorem r62_c {g : Int → Int → Option (List UInt8)} {y0 : Int} {y1 : Int} {x : List UInt8} (hx : g y0 y1 = some x) : r62 g [.int .u64 y0, .int .i64 y1] [] = some (rx62 x) := (dV_eq (asI_c _)).trans ((dV_eq (asI_c _)).trans (ofG_eq hx))
def s62 (g : Int → Int → Option (List UInt8)) : Summ := ⟨[.v, .v], r62 g⟩
theorem r62_eq {g : Int → Int → Option (List UInt8)} {y0 : Int} {y1 : Int} {x : List UInt8} (hx : g y0 y1 = some x) : (s62 g).run [.int .u64 y0, .int .i64 y1] [] = some (rx62 x) := r62_c hx
abbrev sums62 : List (Nat × Summ) := []
def head62_1 (n : Int) (k : Int) (t17 : Int) (b : List Int) : VM :=
  ⟨⟨62, 34, [(0, .int .u64 n), (1, .int .i64 k), (5, .slice (some ⟨0, 0, none⟩) k.toNat 1), (16, .int .i64 (k.toNat : Int)), (17, .int .i64 t17)], [.code k62_17, .inLoop k62_17, .inBlock 0, .code k62_22], [], false, none⟩, [], [(0, .row true (vI .u8 b))], 1⟩
theorem loop62_1 (hS : SumsOK Try.prog (aget (sums62))) (n : Int) (k : Int) (res : List UInt8) : ∀ fuel (st : Int × (List Int)) (o : List UInt8), iter (fun st => octet_Put_s1 n k st.1 st.2) fuel st = some o → (o = res) →
    Leads Try.prog 62 0 (head62_1 n k st.1 st.2) (fun v H _ => Res 0 (rx62 res) v H) := by
  intro fuel st o h hc
  refine iter_leads (head := fun st => head62_1 n k st.1 st.2) (C := fun o => (o = res)) ?_ fuel st o h hc
  clear h hc o st fuel
  intro st o h hc
  obtain ⟨t17, b⟩ := st
  replace h : octet_Put_s1 n k t17 b = some o := h
  show Leads Try.prog 62 0 (head62_1 n k t17 b) (fun v H _ => Res 0 (rx62 res) v H)
  unfold octet_Put_s1 at h
  refine ev_ok tab_ok hS true 3000 ?_
  conv => whnf
  refine br.h2 h ?_ ?_ ?_
  · rfl
  · clear h; intro hb h; conv => whnf
    replace h := oreq.elim h; obtain ⟨hb, h⟩ := h
    refine req.intro (by (first | rfl | (simp [vI, vB, vS, bI, oneC, addrBlk, cellsL, Value.cells] at *; omega) | (simp [vI, vB, vS, bI, oneC, addrBlk, cellsL, Value.cells] at *; done))) ?_
    conv => whnf
    refine pk_b2s ?_
    conv => whnf
    all_goals (cases h; cases hc; exact Res.z rfl rfl rfl)
  clear h; intro hb h; conv => whnf
  let t : Int := wI .i64 (8 * (wI .i64 ((wI .i64 (k - 1)) - t17)))
  replace h := oreq.elim h; obtain ⟨hb, h⟩ := h
  first | (refine req.intro hb ?_; conv => whnf) | skip
  replace h := oreq.elim h; obtain ⟨hb, h⟩ := h
  first | (refine req.intro hb ?_; conv => whnf) | skip
  replace h := oreq.elim h; obtain ⟨hb, h⟩ := h
  refine st_I hb (by first | rfl | (rw [Nat.zero_add, Nat.mul_one]; done) | omega) ?_
  conv => whnf
  let row : List Int := b.set t17.toNat (wI .u8 (n.fdiv (2 ^ (min t.toNat 64))))
  cases h; simp only [Sum.elim_inl, head62_1] at hc
  refine Leads.re hc [(0, 0)] rfl ?_ ?_ <;> (repeat' first | exact trivial | refine ⟨⟨_, rfl, rfl⟩, ?_⟩ | refine ⟨⟨_, _, rfl, rfl, .rowF (vI_flat _ _) id⟩, ?_⟩ | refine ⟨⟨_, _, rfl, rfl, .rowF (vS_flat _) id⟩, ?_⟩ | refine ⟨⟨_, _, rfl, rfl, .rowF (vB_flat _) id⟩, ?_⟩ | refine ⟨⟨_, _, rfl, rfl, .rowF (vT_flat (by first | exact cicmp_Message_flat | exact capi_Addr_flat | exact coctet_Reader_flat | exact cArr2_Int_flat | exact cArr4_Arr2_Int_flat | exact cruntime_errorAddressString_flat | exact cudp_Head_flat | exact cipsix_Head_flat | exact cipfour_Head_flat | exact capi_Tuple_flat | exact ctcp_Head_flat) _) id⟩, ?_⟩ | refine ⟨⟨_, _, rfl, rfl, .tyF (vI_flat _ _)⟩, ?_⟩ | refine ⟨⟨_, _, rfl, rfl, .ty rfl⟩, ?_⟩ | refine ⟨⟨_, _, rfl, rfl, .cells rfl⟩, ?_⟩ | refine ⟨⟨_, _, rfl, rfl, .row rfl id⟩, ?_⟩ | refine ⟨⟨_, _, rfl, rfl, .cr rfl⟩, ?_⟩ | refine ⟨⟨_, _, rfl, rfl, .rc rfl⟩, ?_⟩ | refine ⟨⟨_, _, rfl, rfl, .marks⟩, ?_⟩ | refine ⟨⟨_, _, rfl, rfl, .siter _ _⟩, ?_⟩ | refine ⟨⟨_, _, rfl, rfl, .loop rfl rfl rfl rfl (by repeat' first | exact trivial | refine ⟨rfl, ?_⟩) rfl rfl rfl rfl⟩, ?_⟩)
theorem leads62 (hS : SumsOK Try.prog (aget (sums62))) (n : Int) (k : Int) (res : List UInt8) (h : octet_PutF n k = some res) :
    Leads Try.prog 62 0 ⟨⟨62, 34, [(0, .int .u64 n), (1, .int .i64 k)], [.code k62_26], [], false, none⟩, [], [], 0⟩ (fun v H _ => Res 0 (rx62 res) v H) := by
  unfold octet_PutF at h
  refine ev_ok tab_ok hS true 3000 ?_
  conv => whnf
  refine br.h h ?_ ?_ ?_
  · rfl
  · clear h; intro hb h; conv => whnf
    all_goals (cases h; exact Res.z rfl rfl rfl)
  clear h; intro hb h; conv => whnf
  refine br.h h ?_ ?_ ?_
  · rfl
  · clear h; intro hb h; conv => whnf
    all_goals (cases h; exact Res.z rfl rfl rfl)
  clear h; intro hb h; conv => whnf
  replace h := oreq.elim h; obtain ⟨hb, h⟩ := h
  first | (refine req.intro hb ?_; conv => whnf) | skip
  refine pk_mkI ?_
  conv => whnf
  have hl := loop62_1 hS _ _ res _ _ _ h rfl; simp only [head62_1] at hl
  refine Leads.re hl [(0, 0)] rfl ?_ ?_ <;> (repeat' first | exact trivial | refine ⟨⟨_, rfl, rfl⟩, ?_⟩ | refine ⟨⟨_, _, rfl, rfl, .rowF (vI_flat _ _) id⟩, ?_⟩ | refine ⟨⟨_, _, rfl, rfl, .rowF (vS_flat _) id⟩, ?_⟩ | refine ⟨⟨_, _, rfl, rfl, .rowF (vB_flat _) id⟩, ?_⟩ | refine ⟨⟨_, _, rfl, rfl, .rowF (vT_flat (by first | exact cicmp_Message_flat | exact capi_Addr_flat | exact coctet_Reader_flat | exact cArr2_Int_flat | exact cArr4_Arr2_Int_flat | exact cruntime_errorAddressString_flat | exact cudp_Head_flat | exact cipsix_Head_flat | exact cipfour_Head_flat | exact capi_Tuple_flat | exact ctcp_Head_flat) _) id⟩, ?_⟩ | refine ⟨⟨_, _, rfl, rfl, .tyF (vI_flat _ _)⟩, ?_⟩ | refine ⟨⟨_, _, rfl, rfl, .ty rfl⟩, ?_⟩ | refine ⟨⟨_, _, rfl, rfl, .cells rfl⟩, ?_⟩ | refine ⟨⟨_, _, rfl, rfl, .row rfl id⟩, ?_⟩ | refine ⟨⟨_, _, rfl, rfl, .cr rfl⟩, ?_⟩ | refine ⟨⟨_, _, rfl, rfl, .rc rfl⟩, ?_⟩ | refine ⟨⟨_, _, rfl, rfl, .marks⟩, ?_⟩ | refine ⟨⟨_, _, rfl, rfl, .siter _ _⟩, ?_⟩ | refine ⟨⟨_, _, rfl, rfl, .loop rfl rfl rfl rfl (by repeat' first | exact trivial | refine ⟨rfl, ?_⟩) rfl rfl rfl rfl⟩, ?_⟩)
theorem ok62 (hS : SumsOK Try.prog (aget (sums62))) : SumOK Try.prog 62 (s62 (octet_PutF)) := by
  refine SumOK.of_leads tab_ok (fun ar os r ha hr => ?_) ⟨Try.f62, rfl, by decide, rfl⟩
  replace hr : r62 (octet_PutF) ar (conts os) = some r := hr
  unfold r62 at hr
  generalize hc : conts os = C at hr
  replace hr := dV.elim hr; obtain ⟨v0, l1, y0, rfl, e0, hr⟩ := hr; obtain rfl := asI_eq _ _ _ e0
  replace hr := dV.elim hr; obtain ⟨v1, l2, y1, rfl, e1, hr⟩ := hr; obtain rfl := asI_eq _ _ _ e1
  replace hr := dFin hr; obtain ⟨rfl, rfl, x, h, rfl⟩ := hr
  obtain rfl := kinds_nil hc
  exact ⟨_, rfl, leads62 hS _ _ x h⟩
def octet_Put : Int → Int → Option (List UInt8) := octet_PutF
theorem lift62 : SumOK Try.prog 62 (s62 octet_Put) := ok62 (SumsOK.of_tab trivial)
def octet_Get_s1 (t1 : List UInt8) (n : Int) (t37 : Int) : Option (Sum (Int × Int) (Int × Bool)) :=
  cond (decide (t37 < (t1.length : Int)))
    (
    oreq (decide ((0 : Int) ≤ t37 ∧ t37 < (t1.length : Int))) <|
    ((bI t1)[t37.toNat]?).bind fun (e : Int) =>
    let t2 := iorI .u64 (wI .u64 (n * 2 ^ 8)) (wI .u64 e)
    some (.inl (t2, wI .i64 (t37 + 1))))
    (
    some (.inr ((n, true))))
def octet_GetF (s : List UInt8) (ata1 : Int) (k : Int) : Option (Int × Bool) :=
  cond (decide (k < 1))
    (
    some ((0, false)))
    (
    cond (decide (k > 8))
      (
      some ((0, false)))
      (
      cond (decide (ata1 < 0))
        (
        some ((0, false)))
        (
        let t := decide ((wI .i64 ((s.length : Int) - k)) < ata1)
        cond (t)
          (
          some ((0, false)))
          (
          oreq (decide ((0 : Int) ≤ (wI .i64 (ata1 + k)) ∧ (wI .i64 (ata1 + k)) ≤ (s.length : Int) ∧ (0 : Int) ≤ ata1 ∧ ata1 ≤ ((wI .i64 (ata1 + k)).toNat : Int))) <|
          let t1 := (s.drop ata1.toNat).take ((wI .i64 (ata1 + k)).toNat - ata1.toNat)
          iter (fun st => octet_Get_s1 t1 st.1 st.2) FUEL (0, 0)))))
def rx101 (x : Int × Bool) : SRes := ⟨.tuple ⟨[.int .u64 x.1, .bool x.2]⟩, [], []⟩
def r101 (g : (List UInt8) → Int → Int → Option (Int × Bool)) : Dec := dV asS fun (y0 : List UInt8) => dV (asI .i64) fun (y1 : Int) => dV (asI .i64) fun (y2 : Int) => dEnd (ofG (g y0 y1 y2) rx101)
theorem r101_c {g : (List UInt8) → Int → Int → Option (Int × Bool)} {y0 : List UInt8} {y1 : Int} {y2 : Int} {x : Int × Bool} (hx : g y0 y1 y2 = some x) : r101 g [.string ⟨⟨y0⟩⟩, .int .i64 y1, .int .i64 y2] [] = some (rx101 x) := (dV_eq (asS_c)).trans ((dV_eq (asI_c _)).trans ((dV_eq (asI_c _)).trans (ofG_eq hx)))
def s101 (g : (List UInt8) → Int → Int → Option (Int × Bool)) : Summ := ⟨[.v, .v, .v], r101 g⟩
theorem r101_eq {g : (List UInt8) → Int → Int → Option (Int × Bool)} {y0 : List UInt8} {y1 : Int} {y2 : Int} {x : Int × Bool} (hx : g y0 y1 y2 = some x) : (s101 g).run [.string ⟨⟨y0⟩⟩, .int .i64 y1, .int .i64 y2] [] = some (rx101 x) := r101_c hx
abbrev sums101 : List (Nat × Summ) := []
def head101_1 (t1 : List UInt8) (n : Int) (t37 : Int) : VM :=
  ⟨⟨101, 48, [(8, .int .u64 n), (35, .slice (some ⟨0, 0, none⟩) t1.length 1), (36, .int .i64 (t1.length : Int)), (37, .int .i64 t37)], [.code k101_17, .inLoop k101_17, .inBlock 0, .code k101_22], [], false, none⟩, [], [(0, .row true (vI .u8 (bI t1)))], 1⟩
theorem loop101_1 (hS : SumsOK Try.prog (aget (sums101))) (t1 : List UInt8) (res : Int × Bool) : ∀ fuel (st : Int × Int) (o : Int × Bool), iter (fun st => octet_Get_s1 t1 st.1 st.2) fuel st = some o → (o = res) →
    Leads Try.prog 101 0 (head101_1 t1 st.1 st.2) (fun v H _ => Res 0 (rx101 res) v H) := by
  intro fuel st o h hc
  refine iter_leads (head := fun st => head101_1 t1 st.1 st.2) (C := fun o => (o = res)) ?_ fuel st o h hc
  clear h hc o st fuel
  intro st o h hc
  obtain ⟨n, t37⟩ := st
  replace h : octet_Get_s1 t1 n t37 = some o := h
  show Leads Try.prog 101 0 (head101_1 t1 n t37) (fun v H _ => Res 0 (rx101 res) v H)
  unfold octet_Get_s1 at h
  refine ev_ok tab_ok hS true 3000 ?_
  conv => whnf
  refine br.h2 h ?_ ?_ ?_
  · rfl
  · clear h; intro hb h; conv => whnf
    all_goals (cases h; cases hc; exact Res.z rfl rfl rfl)
  clear h; intro hb h; conv => whnf
  replace h := oreq.elim h; obtain ⟨hb, h⟩ := h
  first | (refine req.intro hb ?_; conv => whnf) | skip
  replace h := obind.elim h; obtain ⟨e, hy, h⟩ := h
  refine rd.I hy (by first | rfl | (rw [Nat.zero_add, Nat.mul_one]; done) | omega) ?_
  conv => whnf
  let t2 : Int := iorI .u64 (wI .u64 (n * 2 ^ 8)) (wI .u64 e)
  cases h; simp only [Sum.elim_inl, head101_1] at hc
  refine Leads.re hc [(0, 0)] rfl ?_ ?_ <;> (repeat' first | exact trivial | refine ⟨⟨_, rfl, rfl⟩, ?_⟩ | refine ⟨⟨_, _, rfl, rfl, .rowF (vI_flat _ _) id⟩, ?_⟩ | refine ⟨⟨_, _, rfl, rfl, .rowF (vS_flat _) id⟩, ?_⟩ | refine ⟨⟨_, _, rfl, rfl, .rowF (vB_flat _) id⟩, ?_⟩ | refine ⟨⟨_, _, rfl, rfl, .rowF (vT_flat (by first | exact cicmp_Message_flat | exact capi_Addr_flat | exact coctet_Reader_flat | exact cArr2_Int_flat | exact cArr4_Arr2_Int_flat | exact cruntime_errorAddressString_flat | exact cudp_Head_flat | exact cipsix_Head_flat | exact cipfour_Head_flat | exact capi_Tuple_flat | exact ctcp_Head_flat) _) id⟩, ?_⟩ | refine ⟨⟨_, _, rfl, rfl, .tyF (vI_flat _ _)⟩, ?_⟩ | refine ⟨⟨_, _, rfl, rfl, .ty rfl⟩, ?_⟩ | refine ⟨⟨_, _, rfl, rfl, .cells rfl⟩, ?_⟩ | refine ⟨⟨_, _, rfl, rfl, .row rfl id⟩, ?_⟩ | refine ⟨⟨_, _, rfl, rfl, .cr rfl⟩, ?_⟩ | refine ⟨⟨_, _, rfl, rfl, .rc rfl⟩, ?_⟩ | refine ⟨⟨_, _, rfl, rfl, .marks⟩, ?_⟩ | refine ⟨⟨_, _, rfl, rfl, .siter _ _⟩, ?_⟩ | refine ⟨⟨_, _, rfl, rfl, .loop rfl rfl rfl rfl (by repeat' first | exact trivial | refine ⟨rfl, ?_⟩) rfl rfl rfl rfl⟩, ?_⟩)
theorem leads101 (hS : SumsOK Try.prog (aget (sums101))) (s : List UInt8) (ata1 : Int) (k : Int) (res : Int × Bool) (h : octet_GetF s ata1 k = some res) :
    Leads Try.prog 101 0 ⟨⟨101, 48, [(0, .string ⟨⟨s⟩⟩), (1, .int .i64 ata1), (2, .int .i64 k)], [.code k101_26], [], false, none⟩, [], [], 0⟩ (fun v H _ => Res 0 (rx101 res) v H) := by
  unfold octet_GetF at h
  refine ev_ok tab_ok hS true 3000 ?_
  conv => whnf
  refine br.h h ?_ ?_ ?_
  · rfl
  · clear h; intro hb h; conv => whnf
    all_goals (cases h; exact Res.z rfl rfl rfl)
  clear h; intro hb h; conv => whnf
  refine br.h h ?_ ?_ ?_
  · rfl
  · clear h; intro hb h; conv => whnf
    all_goals (cases h; exact Res.z rfl rfl rfl)
  clear h; intro hb h; conv => whnf
  refine br.h h ?_ ?_ ?_
  · rfl
  · clear h; intro hb h; conv => whnf
    all_goals (cases h; exact Res.z rfl rfl rfl)
  clear h; intro hb h; conv => whnf
  let t : Bool := decide ((wI .i64 ((s.length : Int) - k)) < ata1)
  refine br.h h ?_ ?_ ?_
  · rfl
  · clear h; intro hb h; conv => whnf
    all_goals (cases h; exact Res.z rfl rfl rfl)
  clear h; intro hb h; conv => whnf
  replace h := oreq.elim h; obtain ⟨hb, h⟩ := h
  first | (refine req.intro hb ?_; conv => whnf) | skip
  let t1 : List UInt8 := (s.drop ata1.toNat).take ((wI .i64 (ata1 + k)).toNat - ata1.toNat)
  refine pk_s2b ?_
  conv => whnf
  have hl := loop101_1 hS _ res _ _ _ h rfl; simp only [head101_1] at hl
  refine Leads.re hl [(0, 0)] rfl ?_ ?_ <;> (repeat' first | exact trivial | refine ⟨⟨_, rfl, rfl⟩, ?_⟩ | refine ⟨⟨_, _, rfl, rfl, .rowF (vI_flat _ _) id⟩, ?_⟩ | refine ⟨⟨_, _, rfl, rfl, .rowF (vS_flat _) id⟩, ?_⟩ | refine ⟨⟨_, _, rfl, rfl, .rowF (vB_flat _) id⟩, ?_⟩ | refine ⟨⟨_, _, rfl, rfl, .rowF (vT_flat (by first | exact cicmp_Message_flat | exact capi_Addr_flat | exact coctet_Reader_flat | exact cArr2_Int_flat | exact cArr4_Arr2_Int_flat | exact cruntime_errorAddressString_flat | exact cudp_Head_flat | exact cipsix_Head_flat | exact cipfour_Head_flat | exact capi_Tuple_flat | exact ctcp_Head_flat) _) id⟩, ?_⟩ | refine ⟨⟨_, _, rfl, rfl, .tyF (vI_flat _ _)⟩, ?_⟩ | refine ⟨⟨_, _, rfl, rfl, .ty rfl⟩, ?_⟩ | refine ⟨⟨_, _, rfl, rfl, .cells rfl⟩, ?_⟩ | refine ⟨⟨_, _, rfl, rfl, .row rfl id⟩, ?_⟩ | refine ⟨⟨_, _, rfl, rfl, .cr rfl⟩, ?_⟩ | refine ⟨⟨_, _, rfl, rfl, .rc rfl⟩, ?_⟩ | refine ⟨⟨_, _, rfl, rfl, .marks⟩, ?_⟩ | refine ⟨⟨_, _, rfl, rfl, .siter _ _⟩, ?_⟩ | refine ⟨⟨_, _, rfl, rfl, .loop rfl rfl rfl rfl (by repeat' first | exact trivial | refine ⟨rfl, ?_⟩) rfl rfl rfl rfl⟩, ?_⟩)
theorem ok101 (hS : SumsOK Try.prog (aget (sums101))) : SumOK Try.prog 101 (s101 (octet_GetF)) := by
  refine SumOK.of_leads tab_ok (fun ar os r ha hr => ?_) ⟨Try.f101, rfl, by decide, rfl⟩
  replace hr : r101 (octet_GetF) ar (conts os) = some r := hr
  unfold r101 at hr
  generalize hc : conts os = C at hr
  replace hr := dV.elim hr; obtain ⟨v0, l1, y0, rfl, e0, hr⟩ := hr; obtain rfl := asS_eq _ _ e0
  replace hr := dV.elim hr; obtain ⟨v1, l2, y1, rfl, e1, hr⟩ := hr; obtain rfl := asI_eq _ _ _ e1
  replace hr := dV.elim hr; obtain ⟨v2, l3, y2, rfl, e2, hr⟩ := hr; obtain rfl := asI_eq _ _ _ e2
  replace hr := dFin hr; obtain ⟨rfl, rfl, x, h, rfl⟩ := hr
  obtain rfl := kinds_nil hc
  exact ⟨_, rfl, leads101 hS _ _ _ x h⟩
def octet_Get : (List UInt8) → Int → Int → Option (Int × Bool) := octet_GetF
theorem lift101 : SumOK Try.prog 101 (s101 octet_Get) := ok101 (SumsOK.of_tab trivial)
def R02_Put_s1 (k : Int) (n1 : Int) (s : List UInt8) (i : Int) : Option (Sum (Int × (List UInt8) × Int) (List UInt8)) :=
  cond (decide (i < k))
    (
    cond (decide (k ≤ 8))
      (
      let t := [UInt8.ofNat (wI .u8 (n1.tmod 256)).toNat]
      oreq (decide (t.length + s.length < 2 ^ 63)) <|
      some (.inl (wI .u64 (n1.tdiv 256), t ++ s, wI .i64 (i + 1))))
      (
      some (.inr (s))))
    (
    some (.inr (s)))
def R02_PutF (n : Int) (k : Int) : Option (List UInt8) :=
  iter (fun st => R02_Put_s1 k st.1 st.2.1 st.2.2) FUEL (n, [], 0)
def rx67 (x : List UInt8) : SRes := ⟨.string ⟨⟨x⟩⟩, [], []⟩
def r67 (g : Int → Int → Option (List UInt8)) : Dec := dV (asI .u64) fun (y0 : Int) => dV (asI .i64) fun (y1 : Int) => dEnd (ofG (g y0 y1) rx67)
theorem r67_c {g : Int → Int → Option (List UInt8)} {y0 : Int} {y1 : Int} {x : List UInt8} (hx : g y0 y1 = some x) : r67 g [.int .u64 y0, .int .i64 y1] [] = some (rx67 x) := (dV_eq (asI_c _)).trans ((dV_eq (asI_c _)).trans (ofG_eq hx))
def s67 (g : Int → Int → Option (List UInt8)) : Summ := ⟨[.v, .v], r67 g⟩
theorem r67_eq {g : Int → Int → Option (List UInt8)} {y0 : Int} {y1 : Int} {x : List UInt8} (hx : g y0 y1 = some x) : (s67 g).run [.int .u64 y0, .int .i64 y1] [] = some (rx67 x) := r67_c hx
abbrev sums67 : List (Nat × Summ) := []
def head67_1 (k : Int) (n1 : Int) (s : List UInt8) (i : Int) : VM :=
  ⟨⟨67, 26, [(0, .int .u64 n1), (1, .int .i64 k), (5, .string ⟨⟨s⟩⟩), (6, .int .i64 i)], [.code k67_12, .inLoop k67_12, .inBlock 0, .code k67_17], [], false, none⟩, [], [], 0⟩
theorem loop67_1 (hS : SumsOK Try.prog (aget (sums67))) (k : Int) (res : List UInt8) : ∀ fuel (st : Int × (List UInt8) × Int) (o : List UInt8), iter (fun st => R02_Put_s1 k st.1 st.2.1 st.2.2) fuel st = some o → (o = res) →
    Leads Try.prog 67 0 (head67_1 k st.1 st.2.1 st.2.2) (fun v H _ => Res 0 (rx67 res) v H) := by
  intro fuel st o h hc
  refine iter_leads (head := fun st => head67_1 k st.1 st.2.1 st.2.2) (C := fun o => (o = res)) ?_ fuel st o h hc
  clear h hc o st fuel
  intro st o h hc
  obtain ⟨n1, s, i⟩ := st
  replace h : R02_Put_s1 k n1 s i = some o := h
  show Leads Try.prog 67 0 (head67_1 k n1 s i) (fun v H _ => Res 0 (rx67 res) v H)
  unfold R02_Put_s1 at h
  refine ev_ok tab_ok hS true 3000 ?_
  conv => whnf
  refine br.h2 h ?_ ?_ ?_
  · rfl
  · clear h; intro hb h; conv => whnf
    all_goals (cases h; cases hc; exact Res.z rfl rfl rfl)
  clear h; intro hb h; conv => whnf
  refine br.h2 h ?_ ?_ ?_
  · rfl
  · clear h; intro hb h; conv => whnf
    all_goals (cases h; cases hc; exact Res.z rfl rfl rfl)
  clear h; intro hb h; conv => whnf
  refine pk_b2sL rfl ?_
  conv => whnf
  let t : List UInt8 := [UInt8.ofNat (wI .u8 (n1.tmod 256)).toNat]
  replace h := oreq.elim h; obtain ⟨hb, h⟩ := h
  first | (refine req.intro hb ?_; conv => whnf) | skip
  cases h; simp only [Sum.elim_inl, head67_1] at hc
  refine Leads.re hc [] rfl ?_ ?_ <;> (repeat' first | exact trivial | refine ⟨⟨_, rfl, rfl⟩, ?_⟩ | refine ⟨⟨_, _, rfl, rfl, .rowF (vI_flat _ _) id⟩, ?_⟩ | refine ⟨⟨_, _, rfl, rfl, .rowF (vS_flat _) id⟩, ?_⟩ | refine ⟨⟨_, _, rfl, rfl, .rowF (vB_flat _) id⟩, ?_⟩ | refine ⟨⟨_, _, rfl, rfl, .rowF (vT_flat (by first | exact cicmp_Message_flat | exact capi_Addr_flat | exact coctet_Reader_flat | exact cArr2_Int_flat | exact cArr4_Arr2_Int_flat | exact cruntime_errorAddressString_flat | exact cudp_Head_flat | exact cipsix_Head_flat | exact cipfour_Head_flat | exact capi_Tuple_flat | exact ctcp_Head_flat) _) id⟩, ?_⟩ | refine ⟨⟨_, _, rfl, rfl, .tyF (vI_flat _ _)⟩, ?_⟩ | refine ⟨⟨_, _, rfl, rfl, .ty rfl⟩, ?_⟩ | refine ⟨⟨_, _, rfl, rfl, .cells rfl⟩, ?_⟩ | refine ⟨⟨_, _, rfl, rfl, .row rfl id⟩, ?_⟩ | refine ⟨⟨_, _, rfl, rfl, .cr rfl⟩, ?_⟩ | refine ⟨⟨_, _, rfl, rfl, .rc rfl⟩, ?_⟩ | refine ⟨⟨_, _, rfl, rfl, .marks⟩, ?_⟩ | refine ⟨⟨_, _, rfl, rfl, .siter _ _⟩, ?_⟩ | refine ⟨⟨_, _, rfl, rfl, .loop rfl rfl rfl rfl (by repeat' first | exact trivial | refine ⟨rfl, ?_⟩) rfl rfl rfl rfl⟩, ?_⟩)
theorem leads67 (hS : SumsOK Try.prog (aget (sums67))) (n : Int) (k : Int) (res : List UInt8) (h : R02_PutF n k = some res) :
    Leads Try.prog 67 0 ⟨⟨67, 26, [(0, .int .u64 n), (1, .int .i64 k)], [.code k67_20], [], false, none⟩, [], [], 0⟩ (fun v H _ => Res 0 (rx67 res) v H) := by
  unfold R02_PutF at h
  refine ev_ok tab_ok hS true 3000 ?_
  conv => whnf
  have hl := loop67_1 hS _ res _ _ _ h rfl; simp only [head67_1] at hl
  refine Leads.re hl [] rfl ?_ ?_ <;> (repeat' first | exact trivial | refine ⟨⟨_, rfl, rfl⟩, ?_⟩ | refine ⟨⟨_, _, rfl, rfl, .rowF (vI_flat _ _) id⟩, ?_⟩ | refine ⟨⟨_, _, rfl, rfl, .rowF (vS_flat _) id⟩, ?_⟩ | refine ⟨⟨_, _, rfl, rfl, .rowF (vB_flat _) id⟩, ?_⟩ | refine ⟨⟨_, _, rfl, rfl, .rowF (vT_flat (by first | exact cicmp_Message_flat | exact capi_Addr_flat | exact coctet_Reader_flat | exact cArr2_Int_flat | exact cArr4_Arr2_Int_flat | exact cruntime_errorAddressString_flat | exact cudp_Head_flat | exact cipsix_Head_flat | exact cipfour_Head_flat | exact capi_Tuple_flat | exact ctcp_Head_flat) _) id⟩, ?_⟩ | refine ⟨⟨_, _, rfl, rfl, .tyF (vI_flat _ _)⟩, ?_⟩ | refine ⟨⟨_, _, rfl, rfl, .ty rfl⟩, ?_⟩ | refine ⟨⟨_, _, rfl, rfl, .cells rfl⟩, ?_⟩ | refine ⟨⟨_, _, rfl, rfl, .row rfl id⟩, ?_⟩ | refine ⟨⟨_, _, rfl, rfl, .cr rfl⟩, ?_⟩ | refine ⟨⟨_, _, rfl, rfl, .rc rfl⟩, ?_⟩ | refine ⟨⟨_, _, rfl, rfl, .marks⟩, ?_⟩ | refine ⟨⟨_, _, rfl, rfl, .siter _ _⟩, ?_⟩ | refine ⟨⟨_, _, rfl, rfl, .loop rfl rfl rfl rfl (by repeat' first | exact trivial | refine ⟨rfl, ?_⟩) rfl rfl rfl rfl⟩, ?_⟩)
theorem ok67 (hS : SumsOK Try.prog (aget (sums67))) : SumOK Try.prog 67 (s67 (R02_PutF)) := by
  refine SumOK.of_leads tab_ok (fun ar os r ha hr => ?_) ⟨Try.f67, rfl, by decide, rfl⟩
  replace hr : r67 (R02_PutF) ar (conts os) = some r := hr
  unfold r67 at hr
  generalize hc : conts os = C at hr
  replace hr := dV.elim hr; obtain ⟨v0, l1, y0, rfl, e0, hr⟩ := hr; obtain rfl := asI_eq _ _ _ e0
  replace hr := dV.elim hr; obtain ⟨v1, l2, y1, rfl, e1, hr⟩ := hr; obtain rfl := asI_eq _ _ _ e1
  replace hr := dFin hr; obtain ⟨rfl, rfl, x, h, rfl⟩ := hr
  obtain rfl := kinds_nil hc
  exact ⟨_, rfl, leads67 hS _ _ x h⟩
def R02_Put : Int → Int → Option (List UInt8) := R02_PutF
theorem lift67 : SumOK Try.prog 67 (s67 R02_Put) := ok67 (SumsOK.of_tab trivial)
def R02_Get_s1 (s : List UInt8) (ata1 : Int) (k : Int) (n : Int) (i : Int) : Option (Sum (Int × Int) (Int × Bool)) :=
  cond (decide (i < k))
    (
    oreq (decide (0 ≤ (wI .i64 (ata1 + i)))) <|
    (s[(wI .i64 (ata1 + i)).toNat]?).bind fun (b : UInt8) =>
    let t1 := wI .u64 ((wI .u64 (n * 256)) + (wI .u64 (b.toNat : Int)))
    some (.inl (t1, wI .i64 (i + 1))))
    (
    some (.inr ((n, true))))
def R02_GetF (s : List UInt8) (ata1 : Int) (k : Int) : Option (Int × Bool) :=
  cond (decide (k < 1))
    (
    some ((0, false)))
    (
    cond (decide (k > 8))
      (
      some ((0, false)))
      (
      cond (decide (ata1 < 0))
        (
        some ((0, false)))
        (
        cond (decide (ata1 > (s.length : Int)))
          (
          some ((0, false)))
          (
          let t := decide (k > (wI .i64 ((s.length : Int) - ata1)))
          cond (t)
            (
            some ((0, false)))
            (
            iter (fun st => R02_Get_s1 s ata1 k st.1 st.2) FUEL (0, 0))))))
def rx114 (x : Int × Bool) : SRes := ⟨.tuple ⟨[.int .u64 x.1, .bool x.2]⟩, [], []⟩
def r114 (g : (List UInt8) → Int → Int → Option (Int × Bool)) : Dec := dV asS fun (y0 : List UInt8) => dV (asI .i64) fun (y1 : Int) => dV (asI .i64) fun (y2 : Int) => dEnd (ofG (g y0 y1 y2) rx114)
theorem r114_c {g : (List UInt8) → Int → Int → Option (Int × Bool)} {y0 : List UInt8} {y1 : Int} {y2 : Int} {x : Int × Bool} (hx : g y0 y1 y2 = some x) : r114 g [.string ⟨⟨y0⟩⟩, .int .i64 y1, .int .i64 y2] [] = some (rx114 x) := (dV_eq (asS_c)).trans ((dV_eq (asI_c _)).trans ((dV_eq (asI_c _)).trans (ofG_eq hx)))
def s114 (g : (List UInt8) → Int → Int → Option (Int × Bool)) : Summ := ⟨[.v, .v, .v], r114 g⟩
theorem r114_eq {g : (List UInt8) → Int → Int → Option (Int × Bool)} {y0 : List UInt8} {y1 : Int} {y2 : Int} {x : Int × Bool} (hx : g y0 y1 y2 = some x) : (s114 g).run [.string ⟨⟨y0⟩⟩, .int .i64 y1, .int .i64 y2] [] = some (rx114 x) := r114_c hx
abbrev sums114 : List (Nat × Summ) := []
def head114_1 (s : List UInt8) (ata1 : Int) (k : Int) (n : Int) (i : Int) : VM :=
  ⟨⟨114, 49, [(0, .string ⟨⟨s⟩⟩), (1, .int .i64 ata1), (2, .int .i64 k), (8, .int .u64 n), (9, .int .i64 i)], [.code k114_15, .inLoop k114_15, .inBlock 0, .code k114_20], [], false, none⟩, [], [], 0⟩
theorem loop114_1 (hS : SumsOK Try.prog (aget (sums114))) (s : List UInt8) (ata1 : Int) (k : Int) (res : Int × Bool) : ∀ fuel (st : Int × Int) (o : Int × Bool), iter (fun st => R02_Get_s1 s ata1 k st.1 st.2) fuel st = some o → (o = res) →
    Leads Try.prog 114 0 (head114_1 s ata1 k st.1 st.2) (fun v H _ => Res 0 (rx114 res) v H) := by
  intro fuel st o h hc
  refine iter_leads (head := fun st => head114_1 s ata1 k st.1 st.2) (C := fun o => (o = res)) ?_ fuel st o h hc
  clear h hc o st fuel
  intro st o h hc
  obtain ⟨n, i⟩ := st
  replace h : R02_Get_s1 s ata1 k n i = some o := h
  show Leads Try.prog 114 0 (head114_1 s ata1 k n i) (fun v H _ => Res 0 (rx114 res) v H)
  unfold R02_Get_s1 at h
  refine ev_ok tab_ok hS true 3000 ?_
  conv => whnf
  refine br.h2 h ?_ ?_ ?_
  · rfl
  · clear h; intro hb h; conv => whnf
    all_goals (cases h; cases hc; exact Res.z rfl rfl rfl)
  clear h; intro hb h; conv => whnf
  replace h := oreq.elim h; obtain ⟨hb, h⟩ := h
  first | (refine req.intro hb ?_; conv => whnf) | skip
  replace h := obind.elim h; obtain ⟨b, hy, h⟩ := h
  refine rdS.intro hy ?_
  conv => whnf
  let t1 : Int := wI .u64 ((wI .u64 (n * 256)) + (wI .u64 (b.toNat : Int)))
  cases h; simp only [Sum.elim_inl, head114_1] at hc
  refine Leads.re hc [] rfl ?_ ?_ <;> (repeat' first | exact trivial | refine ⟨⟨_, rfl, rfl⟩, ?_⟩ | refine ⟨⟨_, _, rfl, rfl, .rowF (vI_flat _ _) id⟩, ?_⟩ | refine ⟨⟨_, _, rfl, rfl, .rowF (vS_flat _) id⟩, ?_⟩ | refine ⟨⟨_, _, rfl, rfl, .rowF (vB_flat _) id⟩, ?_⟩ | refine ⟨⟨_, _, rfl, rfl, .rowF (vT_flat (by first | exact cicmp_Message_flat | exact capi_Addr_flat | exact coctet_Reader_flat | exact cArr2_Int_flat | exact cArr4_Arr2_Int_flat | exact cruntime_errorAddressString_flat | exact cudp_Head_flat | exact cipsix_Head_flat | exact cipfour_Head_flat | exact capi_Tuple_flat | exact ctcp_Head_flat) _) id⟩, ?_⟩ | refine ⟨⟨_, _, rfl, rfl, .tyF (vI_flat _ _)⟩, ?_⟩ | refine ⟨⟨_, _, rfl, rfl, .ty rfl⟩, ?_⟩ | refine ⟨⟨_, _, rfl, rfl, .cells rfl⟩, ?_⟩ | refine ⟨⟨_, _, rfl, rfl, .row rfl id⟩, ?_⟩ | refine ⟨⟨_, _, rfl, rfl, .cr rfl⟩, ?_⟩ | refine ⟨⟨_, _, rfl, rfl, .rc rfl⟩, ?_⟩ | refine ⟨⟨_, _, rfl, rfl, .marks⟩, ?_⟩ | refine ⟨⟨_, _, rfl, rfl, .siter _ _⟩, ?_⟩ | refine ⟨⟨_, _, rfl, rfl, .loop rfl rfl rfl rfl (by repeat' first | exact trivial | refine ⟨rfl, ?_⟩) rfl rfl rfl rfl⟩, ?_⟩)
theorem leads114 (hS : SumsOK Try.prog (aget (sums114))) (s : List UInt8) (ata1 : Int) (k : Int) (res : Int × Bool) (h : R02_GetF s ata1 k = some res) :
    Leads Try.prog 114 0 ⟨⟨114, 49, [(0, .string ⟨⟨s⟩⟩), (1, .int .i64 ata1), (2, .int .i64 k)], [.code k114_24], [], false, none⟩, [], [], 0⟩ (fun v H _ => Res 0 (rx114 res) v H) := by
  unfold R02_GetF at h
  refine ev_ok tab_ok hS true 3000 ?_
  conv => whnf
  refine br.h h ?_ ?_ ?_
  · rfl
  · clear h; intro hb h; conv => whnf
    all_goals (cases h; exact Res.z rfl rfl rfl)
  clear h; intro hb h; conv => whnf
  refine br.h h ?_ ?_ ?_
  · rfl
  · clear h; intro hb h; conv => whnf
    all_goals (cases h; exact Res.z rfl rfl rfl)
  clear h; intro hb h; conv => whnf
  refine br.h h ?_ ?_ ?_
  · rfl
  · clear h; intro hb h; conv => whnf
    all_goals (cases h; exact Res.z rfl rfl rfl)
  clear h; intro hb h; conv => whnf
  refine br.h h ?_ ?_ ?_
  · rfl
  · clear h; intro hb h; conv => whnf
    all_goals (cases h; exact Res.z rfl rfl rfl)
  clear h; intro hb h; conv => whnf
  let t : Bool := decide (k > (wI .i64 ((s.length : Int) - ata1)))
  refine br.h h ?_ ?_ ?_
  · rfl
  · clear h; intro hb h; conv => whnf
    all_goals (cases h; exact Res.z rfl rfl rfl)
  clear h; intro hb h; conv => whnf
  have hl := loop114_1 hS _ _ _ res _ _ _ h rfl; simp only [head114_1] at hl
  refine Leads.re hl [] rfl ?_ ?_ <;> (repeat' first | exact trivial | refine ⟨⟨_, rfl, rfl⟩, ?_⟩ | refine ⟨⟨_, _, rfl, rfl, .rowF (vI_flat _ _) id⟩, ?_⟩ | refine ⟨⟨_, _, rfl, rfl, .rowF (vS_flat _) id⟩, ?_⟩ | refine ⟨⟨_, _, rfl, rfl, .rowF (vB_flat _) id⟩, ?_⟩ | refine ⟨⟨_, _, rfl, rfl, .rowF (vT_flat (by first | exact cicmp_Message_flat | exact capi_Addr_flat | exact coctet_Reader_flat | exact cArr2_Int_flat | exact cArr4_Arr2_Int_flat | exact cruntime_errorAddressString_flat | exact cudp_Head_flat | exact cipsix_Head_flat | exact cipfour_Head_flat | exact capi_Tuple_flat | exact ctcp_Head_flat) _) id⟩, ?_⟩ | refine ⟨⟨_, _, rfl, rfl, .tyF (vI_flat _ _)⟩, ?_⟩ | refine ⟨⟨_, _, rfl, rfl, .ty rfl⟩, ?_⟩ | refine ⟨⟨_, _, rfl, rfl, .cells rfl⟩, ?_⟩ | refine ⟨⟨_, _, rfl, rfl, .row rfl id⟩, ?_⟩ | refine ⟨⟨_, _, rfl, rfl, .cr rfl⟩, ?_⟩ | refine ⟨⟨_, _, rfl, rfl, .rc rfl⟩, ?_⟩ | refine ⟨⟨_, _, rfl, rfl, .marks⟩, ?_⟩ | refine ⟨⟨_, _, rfl, rfl, .siter _ _⟩, ?_⟩ | refine ⟨⟨_, _, rfl, rfl, .loop rfl rfl rfl rfl (by repeat' first | exact trivial | refine ⟨rfl, ?_⟩) rfl rfl rfl rfl⟩, ?_⟩)
theorem ok114 (hS : SumsOK Try.prog (aget (sums114))) : SumOK Try.prog 114 (s114 (R02_GetF)) := by
  refine SumOK.of_leads tab_ok (fun ar os r ha hr => ?_) ⟨Try.f114, rfl, by decide, rfl⟩
  replace hr : r114 (R02_GetF) ar (conts os) = some r := hr
  unfold r114 at hr
  generalize hc : conts os = C at hr
  replace hr := dV.elim hr; obtain ⟨v0, l1, y0, rfl, e0, hr⟩ := hr; obtain rfl := asS_eq _ _ e0
  replace hr := dV.elim hr; obtain ⟨v1, l2, y1, rfl, e1, hr⟩ := hr; obtain rfl := asI_eq _ _ _ e1
  replace hr := dV.elim hr; obtain ⟨v2, l3, y2, rfl, e2, hr⟩ := hr; obtain rfl := asI_eq _ _ _ e2
  replace hr := dFin hr; obtain ⟨rfl, rfl, x, h, rfl⟩ := hr
  obtain rfl := kinds_nil hc
  exact ⟨_, rfl, leads114 hS _ _ _ x h⟩
def R02_Get : (List UInt8) → Int → Int → Option (Int × Bool) := R02_GetF
theorem lift114 : SumOK Try.prog 114 (s114 R02_Get) := ok114 (SumsOK.of_tab trivial)
def R02_MustF (R02_Get : (List UInt8) → Int → Int → Option (Int × Bool)) (s : List UInt8) (ata1 : Int) (k : Int) : Option Int :=
  (R02_Get s ata1 k).bind fun xg =>
  some (wI .i64 xg.1)
def rx74 (x : Int) : SRes := ⟨.int .i64 x, [], []⟩
def r74 (g : (List UInt8) → Int → Int → Option Int) : Dec := dV asS fun (y0 : List UInt8) => dV (asI .i64) fun (y1 : Int) => dV (asI .i64) fun (y2 : Int) => dEnd (ofG (g y0 y1 y2) rx74)
theorem r74_c {g : (List UInt8) → Int → Int → Option Int} {y0 : List UInt8} {y1 : Int} {y2 : Int} {x : Int} (hx : g y0 y1 y2 = some x) : r74 g [.string ⟨⟨y0⟩⟩, .int .i64 y1, .int .i64 y2] [] = some (rx74 x) := (dV_eq (asS_c)).trans ((dV_eq (asI_c _)).trans ((dV_eq (asI_c _)).trans (ofG_eq hx)))
def s74 (g : (List UInt8) → Int → Int → Option Int) : Summ := ⟨[.v, .v, .v], r74 g⟩
theorem r74_eq {g : (List UInt8) → Int → Int → Option Int} {y0 : List UInt8} {y1 : Int} {y2 : Int} {x : Int} (hx : g y0 y1 y2 = some x) : (s74 g).run [.string ⟨⟨y0⟩⟩, .int .i64 y1, .int .i64 y2] [] = some (rx74 x) := r74_c hx
abbrev sums74 (R02_Get : (List UInt8) → Int → Int → Option (Int × Bool)) : List (Nat × Summ) := [(114, s114 R02_Get)]
theorem leads74 (R02_Get : (List UInt8) → Int → Int → Option (Int × Bool)) (hS : SumsOK Try.prog (aget (sums74 R02_Get))) (s : List UInt8) (ata1 : Int) (k : Int) (res : Int) (h : R02_MustF R02_Get s ata1 k = some res) :
    Leads Try.prog 74 0 ⟨⟨74, 18, [(0, .string ⟨⟨s⟩⟩), (1, .int .i64 ata1), (2, .int .i64 k)], [.code k74_5], [], false, none⟩, [], [], 0⟩ (fun v H _ => Res 0 (rx74 res) v H) := by
  unfold R02_MustF at h
  refine ev_ok tab_ok hS true 3000 ?_
  conv => whnf
  replace h := obind.elim h; obtain ⟨xg, hy, h⟩ := h
  refine sumK.q rfl rfl (r114_eq hy) rfl rfl rfl ?_
  conv => whnf
  all_goals (cases h; exact Res.z rfl rfl rfl)
theorem ok74 (R02_Get : (List UInt8) → Int → Int → Option (Int × Bool)) (hS : SumsOK Try.prog (aget (sums74 R02_Get))) : SumOK Try.prog 74 (s74 (R02_MustF R02_Get)) := by
  refine SumOK.of_leads tab_ok (fun ar os r ha hr => ?_) ⟨Try.f74, rfl, by decide, rfl⟩
  replace hr : r74 (R02_MustF R02_Get) ar (conts os) = some r := hr
  unfold r74 at hr
  generalize hc : conts os = C at hr
  replace hr := dV.elim hr; obtain ⟨v0, l1, y0, rfl, e0, hr⟩ := hr; obtain rfl := asS_eq _ _ e0
  replace hr := dV.elim hr; obtain ⟨v1, l2, y1, rfl, e1, hr⟩ := hr; obtain rfl := asI_eq _ _ _ e1
  replace hr := dV.elim hr; obtain ⟨v2, l3, y2, rfl, e2, hr⟩ := hr; obtain rfl := asI_eq _ _ _ e2
  replace hr := dFin hr; obtain ⟨rfl, rfl, x, h, rfl⟩ := hr
  obtain rfl := kinds_nil hc
  exact ⟨_, rfl, leads74 R02_Get hS _ _ _ x h⟩
def R02_Must : (List UInt8) → Int → Int → Option Int := R02_MustF R02_Get
theorem lift74 : SumOK Try.prog 74 (s74 R02_Must) := ok74 R02_Get (SumsOK.of_tab ⟨lift114, trivial⟩)
def check_SetF (octet_Put : Int → Int → Option (List UInt8)) (s : List UInt8) (ata1 : Int) (k : Int) (n : Int) : Option (List UInt8) :=
  (octet_Put n k).bind fun p =>
  cond (p == [])
    (
    some (s))
    (
    cond (decide (ata1 < 0))
      (
      some (s))
      (
      let t := decide ((wI .i64 ((s.length : Int) - k)) < ata1)
      cond (t)
        (
        some (s))
        (
        oreq (decide ((0 : Int) ≤ ata1 ∧ ata1 ≤ (s.length : Int))) <|
        oreq (decide ((s.take ata1.toNat).length + p.length < 2 ^ 63)) <|
        oreq (decide ((0 : Int) ≤ (wI .i64 (ata1 + k)) ∧ (wI .i64 (ata1 + k)) ≤ (s.length : Int))) <|
        let t1 := (s.drop (wI .i64 (ata1 + k)).toNat).take (s.length - (wI .i64 (ata1 + k)).toNat)
        oreq (decide (((s.take ata1.toNat) ++ p).length + t1.length < 2 ^ 63)) <|
        some (((s.take ata1.toNat) ++ p) ++ t1))))
def rx65 (x : List UInt8) : SRes := ⟨.string ⟨⟨x⟩⟩, [], []⟩
def r65 (g : (List UInt8) → Int → Int → Int → Option (List UInt8)) : Dec := dV asS fun (y0 : List UInt8) => dV (asI .i64) fun (y1 : Int) => dV (asI .i64) fun (y2 : Int) => dV (asI .u64) fun (y3 : Int) => dEnd (ofG (g y0 y1 y2 y3) rx65)
theorem r65_c {g : (List UInt8) → Int → Int → Int → Option (List UInt8)} {y0 : List UInt8} {y1 : Int} {y2 : Int} {y3 : Int} {x : List UInt8} (hx : g y0 y1 y2 y3 = some x) : r65 g [.string ⟨⟨y0⟩⟩, .int .i64 y1, .int .i64 y2, .int .u64 y3] [] = some (rx65 x) := (dV_eq (asS_c)).trans ((dV_eq (asI_c _)).trans ((dV_eq (asI_c _)).trans ((dV_eq (asI_c _)).trans (ofG_eq hx))))
def s65 (g : (List UInt8) → Int → Int → Int → Option (List UInt8)) : Summ := ⟨[.v, .v, .v, .v], r65 g⟩
theorem r65_eq {g : (List UInt8) → Int → Int → Int → Option (List UInt8)} {y0 : List UInt8} {y1 : Int} {y2 : Int} {y3 : Int} {x : List UInt8} (hx : g y0 y1 y2 y3 = some x) : (s65 g).run [.string ⟨⟨y0⟩⟩, .int .i64 y1, .int .i64 y2, .int .u64 y3] [] = some (rx65 x) := r65_c hx
abbrev sums65 (octet_Put : Int → Int → Option (List UInt8)) : List (Nat × Summ) := [(62, s62 octet_Put)]
theorem leads65 (octet_Put : Int → Int → Option (List UInt8)) (hS : SumsOK Try.prog (aget (sums65 octet_Put))) (s : List UInt8) (ata1 : Int) (k : Int) (n : Int) (res : List UInt8) (h : check_SetF octet_Put s ata1 k n = some res) :
    Leads Try.prog 65 0 ⟨⟨65, 39, [(0, .string ⟨⟨s⟩⟩), (1, .int .i64 ata1), (2, .int .i64 k), (3, .int .u64 n)], [.code k65_11], [], false, none⟩, [], [], 0⟩ (fun v H _ => Res 0 (rx65 res) v H) := by
  unfold check_SetF at h
  refine ev_ok tab_ok hS true 3000 ?_
  conv => whnf
  replace h := obind.elim h; obtain ⟨p, hy, h⟩ := h
  refine sumK.q rfl rfl (r62_eq hy) rfl rfl rfl ?_
  conv => whnf
  refine br.h h ?_ ?_ ?_
  · rfl
  · clear h; intro hb h; conv => whnf
    all_goals (cases h; exact Res.z rfl rfl rfl)
  clear h; intro hb h; conv => whnf
  refine br.h h ?_ ?_ ?_
  · rfl
  · clear h; intro hb h; conv => whnf
    all_goals (cases h; exact Res.z rfl rfl rfl)
  clear h; intro hb h; conv => whnf
  let t : Bool := decide ((wI .i64 ((s.length : Int) - k)) < ata1)
  refine br.h h ?_ ?_ ?_
  · rfl
  · clear h; intro hb h; conv => whnf
    all_goals (cases h; exact Res.z rfl rfl rfl)
  clear h; intro hb h; conv => whnf
  replace h := oreq.elim h; obtain ⟨hb, h⟩ := h
  first | (refine req.intro hb ?_; conv => whnf) | skip
  replace h := oreq.elim h; obtain ⟨hb, h⟩ := h
  first | (refine req.intro hb ?_; conv => whnf) | skip
  replace h := oreq.elim h; obtain ⟨hb, h⟩ := h
  first | (refine req.intro hb ?_; conv => whnf) | skip
  let t1 : List UInt8 := (s.drop (wI .i64 (ata1 + k)).toNat).take (s.length - (wI .i64 (ata1 + k)).toNat)
  replace h := oreq.elim h; obtain ⟨hb, h⟩ := h
  first | (refine req.intro hb ?_; conv => whnf) | skip
  all_goals (cases h; exact Res.z rfl rfl rfl)
theorem ok65 (octet_Put : Int → Int → Option (List UInt8)) (hS : SumsOK Try.prog (aget (sums65 octet_Put))) : SumOK Try.prog 65 (s65 (check_SetF octet_Put)) := by
  refine SumOK.of_leads tab_ok (fun ar os r ha hr => ?_) ⟨Try.f65, rfl, by decide, rfl⟩
  replace hr : r65 (check_SetF octet_Put) ar (conts os) = some r := hr
  unfold r65 at hr
  generalize hc : conts os = C at hr
  replace hr := dV.elim hr; obtain ⟨v0, l1, y0, rfl, e0, hr⟩ := hr; obtain rfl := asS_eq _ _ e0
  replace hr := dV.elim hr; obtain ⟨v1, l2, y1, rfl, e1, hr⟩ := hr; obtain rfl := asI_eq _ _ _ e1
  replace hr := dV.elim hr; obtain ⟨v2, l3, y2, rfl, e2, hr⟩ := hr; obtain rfl := asI_eq _ _ _ e2
  replace hr := dV.elim hr; obtain ⟨v3, l4, y3, rfl, e3, hr⟩ := hr; obtain rfl := asI_eq _ _ _ e3
  replace hr := dFin hr; obtain ⟨rfl, rfl, x, h, rfl⟩ := hr
  obtain rfl := kinds_nil hc
  exact ⟨_, rfl, leads65 octet_Put hS _ _ _ _ x h⟩
def check_Set : (List UInt8) → Int → Int → Int → Option (List UInt8) := check_SetF octet_Put
theorem lift65 : SumOK Try.prog 65 (s65 check_Set) := ok65 octet_Put (SumsOK.of_tab ⟨lift62, trivial⟩)
def R03_SetF (R02_Get : (List UInt8) → Int → Int → Option (Int × Bool)) (R02_Put : Int → Int → Option (List UInt8)) (s : List UInt8) (ata1 : Int) (k : Int) (n : Int) : Option (List UInt8) :=
  (R02_Get s ata1 k).bind fun xg =>
  cond (!xg.2)
    (
    some (s))
    (
    oreq (decide ((0 : Int) ≤ ata1 ∧ ata1 ≤ (s.length : Int))) <|
    (R02_Put n k).bind fun p =>
    oreq (decide ((s.take ata1.toNat).length + p.length < 2 ^ 63)) <|
    oreq (decide ((0 : Int) ≤ (wI .i64 (ata1 + k)) ∧ (wI .i64 (ata1 + k)) ≤ (s.length : Int))) <|
    let t := (s.drop (wI .i64 (ata1 + k)).toNat).take (s.length - (wI .i64 (ata1 + k)).toNat)
    oreq (decide (((s.take ata1.toNat) ++ p).length + t.length < 2 ^ 63)) <|
    some (((s.take ata1.toNat) ++ p) ++ t))
def rx69 (x : List UInt8) : SRes := ⟨.string ⟨⟨x⟩⟩, [], []⟩
def r69 (g : (List UInt8) → Int → Int → Int → Option (List UInt8)) : Dec := dV asS fun (y0 : List UInt8) => dV (asI .i64) fun (y1 : Int) => dV (asI .i64) fun (y2 : Int) => dV (asI .u64) fun (y3 : Int) => dEnd (ofG (g y0 y1 y2 y3) rx69)
theorem r69_c {g : (List UInt8) → Int → Int → Int → Option (List UInt8)} {y0 : List UInt8} {y1 : Int} {y2 : Int} {y3 : Int} {x : List UInt8} (hx : g y0 y1 y2 y3 = some x) : r69 g [.string ⟨⟨y0⟩⟩, .int .i64 y1, .int .i64 y2, .int .u64 y3] [] = some (rx69 x) := (dV_eq (asS_c)).trans ((dV_eq (asI_c _)).trans ((dV_eq (asI_c _)).trans ((dV_eq (asI_c _)).trans (ofG_eq hx))))
def s69 (g : (List UInt8) → Int → Int → Int → Option (List UInt8)) : Summ := ⟨[.v, .v, .v, .v], r69 g⟩
theorem r69_eq {g : (List UInt8) → Int → Int → Int → Option (List UInt8)} {y0 : List UInt8} {y1 : Int} {y2 : Int} {y3 : Int} {x : List UInt8} (hx : g y0 y1 y2 y3 = some x) : (s69 g).run [.string ⟨⟨y0⟩⟩, .int .i64 y1, .int .i64 y2, .int .u64 y3] [] = some (rx69 x) := r69_c hx
abbrev sums69 (R02_Get : (List UInt8) → Int → Int → Option (Int × Bool)) (R02_Put : Int → Int → Option (List UInt8)) : List (Nat × Summ) := [(114, s114 R02_Get), (67, s67 R02_Put)]
theorem leads69 (R02_Get : (List UInt8) → Int → Int → Option (Int × Bool)) (R02_Put : Int → Int → Option (List UInt8)) (hS : SumsOK Try.prog (aget (sums69 R02_Get R02_Put))) (s : List UInt8) (ata1 : Int) (k : Int) (n : Int) (res : List UInt8) (h : R03_SetF R02_Get R02_Put s ata1 k n = some res) :
    Leads Try.prog 69 0 ⟨⟨69, 34, [(0, .string ⟨⟨s⟩⟩), (1, .int .i64 ata1), (2, .int .i64 k), (3, .int .u64 n)], [.code k69_11], [], false, none⟩, [], [], 0⟩ (fun v H _ => Res 0 (rx69 res) v H) := by
  unfold R03_SetF at h
  refine ev_ok tab_ok hS true 3000 ?_
  conv => whnf
  replace h := obind.elim h; obtain ⟨xg, hy, h⟩ := h
  refine sumK.q rfl rfl (r114_eq hy) rfl rfl rfl ?_
  conv => whnf
  refine br.h h ?_ ?_ ?_
  · rfl
  · clear h; intro hb h; conv => whnf
    all_goals (cases h; exact Res.z rfl rfl rfl)
  clear h; intro hb h; conv => whnf
  replace h := oreq.elim h; obtain ⟨hb, h⟩ := h
  first | (refine req.intro hb ?_; conv => whnf) | skip
  replace h := obind.elim h; obtain ⟨p, hy, h⟩ := h
  refine sumK.q rfl rfl (r67_eq hy) rfl rfl rfl ?_
  conv => whnf
  replace h := oreq.elim h; obtain ⟨hb, h⟩ := h
  first | (refine req.intro hb ?_; conv => whnf) | skip
  replace h := oreq.elim h; obtain ⟨hb, h⟩ := h
  first | (refine req.intro hb ?_; conv => whnf) | skip
  let t : List UInt8 := (s.drop (wI .i64 (ata1 + k)).toNat).take (s.length - (wI .i64 (ata1 + k)).toNat)
  replace h := oreq.elim h; obtain ⟨hb, h⟩ := h
  first | (refine req.intro hb ?_; conv => whnf) | skip
  all_goals (cases h; exact Res.z rfl rfl rfl)
theorem ok69 (R02_Get : (List UInt8) → Int → Int → Option (Int × Bool)) (R02_Put : Int → Int → Option (List UInt8)) (hS : SumsOK Try.prog (aget (sums69 R02_Get R02_Put))) : SumOK Try.prog 69 (s69 (R03_SetF R02_Get R02_Put)) := by
  refine SumOK.of_leads tab_ok (fun ar os r ha hr => ?_) ⟨Try.f69, rfl, by decide, rfl⟩
  replace hr : r69 (R03_SetF R02_Get R02_Put) ar (conts os) = some r := hr
  unfold r69 at hr
  generalize hc : conts os = C at hr
  replace hr := dV.elim hr; obtain ⟨v0, l1, y0, rfl, e0, hr⟩ := hr; obtain rfl := asS_eq _ _ e0
  replace hr := dV.elim hr; obtain ⟨v1, l2, y1, rfl, e1, hr⟩ := hr; obtain rfl := asI_eq _ _ _ e1
  replace hr := dV.elim hr; obtain ⟨v2, l3, y2, rfl, e2, hr⟩ := hr; obtain rfl := asI_eq _ _ _ e2
  replace hr := dV.elim hr; obtain ⟨v3, l4, y3, rfl, e3, hr⟩ := hr; obtain rfl := asI_eq _ _ _ e3
  replace hr := dFin hr; obtain ⟨rfl, rfl, x, h, rfl⟩ := hr
  obtain rfl := kinds_nil hc
  exact ⟨_, rfl, leads69 R02_Get R02_Put hS _ _ _ _ x h⟩
def R03_Set : (List UInt8) → Int → Int → Int → Option (List UInt8) := R03_SetF R02_Get R02_Put
theorem lift69 : SumOK Try.prog 69 (s69 R03_Set) := ok69 R02_Get R02_Put (SumsOK.of_tab ⟨lift114, lift67, trivial⟩)
def R03_Add_s1 (l : List Int) (n1 : Int) : Option (Sum Int Int) :=
  cond (decide (n1 > 65535))
    (
    let t := wI .i64 ((n1.tmod 65536) + (wI .i64 (n1.tdiv 65536)))
    some (.inl t))
    (
    some (.inr (n1)))
def R03_Add_s2 (l : List Int) (n : Int) (i : Int) : Option (Sum (Int × Int) Int) :=
  cond (decide (i < (l.length : Int)))
    (
    oreq (decide ((0 : Int) ≤ i ∧ i < (l.length : Int))) <|
    (l[i.toNat]?).bind fun (e : Int) =>
    some (.inl (wI .i64 (n + e), wI .i64 (i + 1))))
    (
    (iter (fun st => R03_Add_s1 l st) FUEL n).bind fun o => some (.inr (o)))
def R03_AddF (l : List Int) : Option Int :=
  iter (fun st => R03_Add_s2 l st.1 st.2) FUEL (0, 0)
def rx115 (x : Int) : SRes := ⟨.int .i64 x, [], [none]⟩
def r115 (g : (List Int) → Option Int) : Dec := dSl 0 1 (unL (asI .i64)) fun (y0 : List Int) => dEnd (ofG (g y0) rx115)
theorem r115_c {g : (List Int) → Option Int} {y0 : List Int} {x : Int} (hx : g y0 = some x) : r115 g [.slice (some ⟨0, 0, none⟩) y0.length 1] [some (vI .i64 y0)] = some (rx115 x) := (dSl_eq (unI_vI _ _)).trans (ofG_eq hx)
def s115 (g : (List Int) → Option Int) : Summ := ⟨[.sl 1], r115 g⟩
theorem r115_eq {g : (List Int) → Option Int} {y0 : List Int} {x : Int} (hx : g y0 = some x) : (s115 g).run [.slice (some ⟨0, 0, none⟩) y0.length 1] [some (vI .i64 y0)] = some (rx115 x) := r115_c hx
abbrev sums115 : List (Nat × Summ) := []
def head115_1 (l : List Int) (n1 : Int) : VM :=
  ⟨⟨115, 25, [(3, .int .i64 n1)], [.code k115_19, .inLoop k115_19, .inBlock 2, .code k115_23], [], false, none⟩, [], [(0, .row false (vI .i64 l))], 1⟩
def head115_2 (l : List Int) (n : Int) (i : Int) : VM :=
  ⟨⟨115, 25, [(0, .slice (some ⟨0, 0, none⟩) l.length 1), (3, .int .i64 n), (4, .int .i64 i)], [.code k115_10, .inLoop k115_10, .inBlock 0, .code k115_24], [], false, none⟩, [], [(0, .row false (vI .i64 l))], 1⟩
theorem loop115_1 (hS : SumsOK Try.prog (aget (sums115))) (l : List Int) (res : Int) : ∀ fuel (st : Int) (o : Int), iter (fun st => R03_Add_s1 l st) fuel st = some o → (o = res) →
    Leads Try.prog 115 1 (head115_1 l st) (fun v H _ => Res 1 (rx115 res) v H) := by
  intro fuel st o h hc
  refine iter_leads (head := fun st => head115_1 l st) (C := fun o => (o = res)) ?_ fuel st o h hc
  clear h hc o st fuel
  intro n1 o h hc
  replace h : R03_Add_s1 l n1 = some o := h
  show Leads Try.prog 115 1 (head115_1 l n1) (fun v H _ => Res 1 (rx115 res) v H)
  unfold R03_Add_s1 at h
  refine ev_ok tab_ok hS true 3000 ?_
  conv => whnf
  refine br.h2 h ?_ ?_ ?_
  · rfl
  · clear h; intro hb h; conv => whnf
    all_goals (cases h; cases hc)
    all_goals exact Res.of [] rfl nw_0 (by decide) js_0 (wr_n wr_0)
  clear h; intro hb h; conv => whnf
  let t : Int := wI .i64 ((n1.tmod 65536) + (wI .i64 (n1.tdiv 65536)))
  cases h; simp only [Sum.elim_inl, head115_1] at hc
  refine Leads.re hc [(0, 0)] rfl ?_ ?_ <;> (repeat' first | exact trivial | refine ⟨⟨_, rfl, rfl⟩, ?_⟩ | refine ⟨⟨_, _, rfl, rfl, .rowF (vI_flat _ _) id⟩, ?_⟩ | refine ⟨⟨_, _, rfl, rfl, .rowF (vS_flat _) id⟩, ?_⟩ | refine ⟨⟨_, _, rfl, rfl, .rowF (vB_flat _) id⟩, ?_⟩ | refine ⟨⟨_, _, rfl, rfl, .rowF (vT_flat (by first | exact cicmp_Message_flat | exact capi_Addr_flat | exact coctet_Reader_flat | exact cArr2_Int_flat | exact cArr4_Arr2_Int_flat | exact cruntime_errorAddressString_flat | exact cudp_Head_flat | exact cipsix_Head_flat | exact cipfour_Head_flat | exact capi_Tuple_flat | exact ctcp_Head_flat) _) id⟩, ?_⟩ | refine ⟨⟨_, _, rfl, rfl, .tyF (vI_flat _ _)⟩, ?_⟩ | refine ⟨⟨_, _, rfl, rfl, .ty rfl⟩, ?_⟩ | refine ⟨⟨_, _, rfl, rfl, .cells rfl⟩, ?_⟩ | refine ⟨⟨_, _, rfl, rfl, .row rfl id⟩, ?_⟩ | refine ⟨⟨_, _, rfl, rfl, .cr rfl⟩, ?_⟩ | refine ⟨⟨_, _, rfl, rfl, .rc rfl⟩, ?_⟩ | refine ⟨⟨_, _, rfl, rfl, .marks⟩, ?_⟩ | refine ⟨⟨_, _, rfl, rfl, .siter _ _⟩, ?_⟩ | refine ⟨⟨_, _, rfl, rfl, .loop rfl rfl rfl rfl (by repeat' first | exact trivial | refine ⟨rfl, ?_⟩) rfl rfl rfl rfl⟩, ?_⟩)
theorem loop115_2 (hS : SumsOK Try.prog (aget (sums115))) (l : List Int) (res : Int) : ∀ fuel (st : Int × Int) (o : Int), iter (fun st => R03_Add_s2 l st.1 st.2) fuel st = some o → (o = res) →
    Leads Try.prog 115 1 (head115_2 l st.1 st.2) (fun v H _ => Res 1 (rx115 res) v H) := by
  intro fuel st o h hc
  refine iter_leads (head := fun st => head115_2 l st.1 st.2) (C := fun o => (o = res)) ?_ fuel st o h hc
  clear h hc o st fuel
  intro st o h hc
  obtain ⟨n, i⟩ := st
  replace h : R03_Add_s2 l n i = some o := h
  show Leads Try.prog 115 1 (head115_2 l n i) (fun v H _ => Res 1 (rx115 res) v H)
  unfold R03_Add_s2 at h
  refine ev_ok tab_ok hS true 3000 ?_
  conv => whnf
  refine br.h2 h ?_ ?_ ?_
  · rfl
  · clear h; intro hb h; conv => whnf
    obtain ⟨y, hy, h2⟩ := obind.elim h; cases h2
    have hl := loop115_1 hS _ res _ _ _ hy hc; simp only [head115_1] at hl
    refine Leads.re hl [(0, 0)] rfl ?_ ?_ <;> (repeat' first | exact trivial | refine ⟨⟨_, rfl, rfl⟩, ?_⟩ | refine ⟨⟨_, _, rfl, rfl, .rowF (vI_flat _ _) id⟩, ?_⟩ | refine ⟨⟨_, _, rfl, rfl, .rowF (vS_flat _) id⟩, ?_⟩ | refine ⟨⟨_, _, rfl, rfl, .rowF (vB_flat _) id⟩, ?_⟩ | refine ⟨⟨_, _, rfl, rfl, .rowF (vT_flat (by first | exact cicmp_Message_flat | exact capi_Addr_flat | exact coctet_Reader_flat | exact cArr2_Int_flat | exact cArr4_Arr2_Int_flat | exact cruntime_errorAddressString_flat | exact cudp_Head_flat | exact cipsix_Head_flat | exact cipfour_Head_flat | exact capi_Tuple_flat | exact ctcp_Head_flat) _) id⟩, ?_⟩ | refine ⟨⟨_, _, rfl, rfl, .tyF (vI_flat _ _)⟩, ?_⟩ | refine ⟨⟨_, _, rfl, rfl, .ty rfl⟩, ?_⟩ | refine ⟨⟨_, _, rfl, rfl, .cells rfl⟩, ?_⟩ | refine ⟨⟨_, _, rfl, rfl, .row rfl id⟩, ?_⟩ | refine ⟨⟨_, _, rfl, rfl, .cr rfl⟩, ?_⟩ | refine ⟨⟨_, _, rfl, rfl, .rc rfl⟩, ?_⟩ | refine ⟨⟨_, _, rfl, rfl, .marks⟩, ?_⟩ | refine ⟨⟨_, _, rfl, rfl, .siter _ _⟩, ?_⟩ | refine ⟨⟨_, _, rfl, rfl, .loop rfl rfl rfl rfl (by repeat' first | exact trivial | refine ⟨rfl, ?_⟩) rfl rfl rfl rfl⟩, ?_⟩)
  clear h; intro hb h; conv => whnf
  replace h := oreq.elim h; obtain ⟨hb, h⟩ := h
  first | (refine req.intro hb ?_; conv => whnf) | skip
  replace h := obind.elim h; obtain ⟨e, hy, h⟩ := h
  refine rd.I hy (by first | rfl | (rw [Nat.zero_add, Nat.mul_one]; done) | omega) ?_
  conv => whnf
  cases h; simp only [Sum.elim_inl, head115_2] at hc
  refine Leads.re hc [(0, 0)] rfl ?_ ?_ <;> (repeat' first | exact trivial | refine ⟨⟨_, rfl, rfl⟩, ?_⟩ | refine ⟨⟨_, _, rfl, rfl, .rowF (vI_flat _ _) id⟩, ?_⟩ | refine ⟨⟨_, _, rfl, rfl, .rowF (vS_flat _) id⟩, ?_⟩ | refine ⟨⟨_, _, rfl, rfl, .rowF (vB_flat _) id⟩, ?_⟩ | refine ⟨⟨_, _, rfl, rfl, .rowF (vT_flat (by first | exact cicmp_Message_flat | exact capi_Addr_flat | exact coctet_Reader_flat | exact cArr2_Int_flat | exact cArr4_Arr2_Int_flat | exact cruntime_errorAddressString_flat | exact cudp_Head_flat | exact cipsix_Head_flat | exact cipfour_Head_flat | exact capi_Tuple_flat | exact ctcp_Head_flat) _) id⟩, ?_⟩ | refine ⟨⟨_, _, rfl, rfl, .tyF (vI_flat _ _)⟩, ?_⟩ | refine ⟨⟨_, _, rfl, rfl, .ty rfl⟩, ?_⟩ | refine ⟨⟨_, _, rfl, rfl, .cells rfl⟩, ?_⟩ | refine ⟨⟨_, _, rfl, rfl, .row rfl id⟩, ?_⟩ | refine ⟨⟨_, _, rfl, rfl, .cr rfl⟩, ?_⟩ | refine ⟨⟨_, _, rfl, rfl, .rc rfl⟩, ?_⟩ | refine ⟨⟨_, _, rfl, rfl, .marks⟩, ?_⟩ | refine ⟨⟨_, _, rfl, rfl, .siter _ _⟩, ?_⟩ | refine ⟨⟨_, _, rfl, rfl, .loop rfl rfl rfl rfl (by repeat' first | exact trivial | refine ⟨rfl, ?_⟩) rfl rfl rfl rfl⟩, ?_⟩)
theorem leads115 (hS : SumsOK Try.prog (aget (sums115))) (l : List Int) (res : Int) (h : R03_AddF l = some res) :
    Leads Try.prog 115 1 ⟨⟨115, 25, [(0, .slice (some ⟨0, 0, none⟩) l.length 1)], [.code k115_27], [], false, none⟩, [], [(0, .row false (vI .i64 l))], 1⟩ (fun v H _ => Res 1 (rx115 res) v H) := by
  unfold R03_AddF at h
  refine ev_ok tab_ok hS true 3000 ?_
  conv => whnf
  have hl := loop115_2 hS _ res _ _ _ h rfl; simp only [head115_2] at hl
  refine Leads.re hl [(0, 0)] rfl ?_ ?_ <;> (repeat' first | exact trivial | refine ⟨⟨_, rfl, rfl⟩, ?_⟩ | refine ⟨⟨_, _, rfl, rfl, .rowF (vI_flat _ _) id⟩, ?_⟩ | refine ⟨⟨_, _, rfl, rfl, .rowF (vS_flat _) id⟩, ?_⟩ | refine ⟨⟨_, _, rfl, rfl, .rowF (vB_flat _) id⟩, ?_⟩ | refine ⟨⟨_, _, rfl, rfl, .rowF (vT_flat (by first | exact cicmp_Message_flat | exact capi_Addr_flat | exact coctet_Reader_flat | exact cArr2_Int_flat | exact cArr4_Arr2_Int_flat | exact cruntime_errorAddressString_flat | exact cudp_Head_flat | exact cipsix_Head_flat | exact cipfour_Head_flat | exact capi_Tuple_flat | exact ctcp_Head_flat) _) id⟩, ?_⟩ | refine ⟨⟨_, _, rfl, rfl, .tyF (vI_flat _ _)⟩, ?_⟩ | refine ⟨⟨_, _, rfl, rfl, .ty rfl⟩, ?_⟩ | refine ⟨⟨_, _, rfl, rfl, .cells rfl⟩, ?_⟩ | refine ⟨⟨_, _, rfl, rfl, .row rfl id⟩, ?_⟩ | refine ⟨⟨_, _, rfl, rfl, .cr rfl⟩, ?_⟩ | refine ⟨⟨_, _, rfl, rfl, .rc rfl⟩, ?_⟩ | refine ⟨⟨_, _, rfl, rfl, .marks⟩, ?_⟩ | refine ⟨⟨_, _, rfl, rfl, .siter _ _⟩, ?_⟩ | refine ⟨⟨_, _, rfl, rfl, .loop rfl rfl rfl rfl (by repeat' first | exact trivial | refine ⟨rfl, ?_⟩) rfl rfl rfl rfl⟩, ?_⟩)
theorem ok115 (hS : SumsOK Try.prog (aget (sums115))) : SumOK Try.prog 115 (s115 (R03_AddF)) := by
  refine SumOK.of_leads tab_ok (fun ar os r ha hr => ?_) ⟨Try.f115, rfl, by decide, rfl⟩
  replace hr : r115 (R03_AddF) ar (conts os) = some r := hr
  unfold r115 at hr
  generalize hc : conts os = C at hr
  have hq := dSl.elim hr; clear hr; obtain ⟨c0, l1, C, y0, rfl, rfl, e0, hr⟩ := hq; obtain rfl := unI_eq e0
  replace hr := dFin hr; obtain ⟨rfl, rfl, x, h, rfl⟩ := hr
  obtain ⟨os, rfl, ha, hc⟩ := kinds_some ha hc
  obtain rfl := kinds_nil hc
  exact ⟨_, rfl, leads115 hS _ x h⟩
def R03_Add : (List Int) → Option Int := R03_AddF
theorem lift115 : SumOK Try.prog 115 (s115 R03_Add) := ok115 (SumsOK.of_tab trivial)
def R03_Words_s1 (R02_Must : (List UInt8) → Int → Int → Option Int) (s1 : List UInt8) (i : Int) (out1 : List Int) : Option (Sum ((List UInt8) × Int × (List Int)) (List Int)) :=
  cond (decide (i < (s1.length : Int)))
    (
    (R02_Must s1 i 2).bind fun m =>
    oreq (decide ((out1.length + 1) * 8 ≤ 2 ^ 47)) <|
    let row := out1 ++ [m]
    some (.inl (s1, wI .i64 (i + 2), row)))
    (
    some (.inr (out1)))
def R03_WordsF (R02_Must : (List UInt8) → Int → Int → Option Int) (s : List UInt8) : Option (List Int) :=
  cond (((s.length : Int).tmod 2) == 1)
    (
    oreq (decide (s.length + 1 < 2 ^ 63)) <|
    iter (fun st => R03_Words_s1 R02_Must st.1 st.2.1 st.2.2) FUEL (s ++ [0], 0, []))
    (
    iter (fun st => R03_Words_s1 R02_Must st.1 st.2.1 st.2.2) FUEL (s, 0, []))
def rx116 (x : List Int) : SRes := ⟨.slice (some ⟨0, 0, none⟩) x.length 1, [(vI .i64 x)], []⟩
def r116 (g : (List UInt8) → Option (List Int)) : Dec := dV asS fun (y0 : List UInt8) => dEnd (ofG (g y0) rx116)
theorem r116_c {g : (List UInt8) → Option (List Int)} {y0 : List UInt8} {x : List Int} (hx : g y0 = some x) : r116 g [.string ⟨⟨y0⟩⟩] [] = some (rx116 x) := (dV_eq (asS_c)).trans (ofG_eq hx)
def s116 (g : (List UInt8) → Option (List Int)) : Summ := ⟨[.v], r116 g⟩
theorem r116_eq {g : (List UInt8) → Option (List Int)} {y0 : List UInt8} {x : List Int} (hx : g y0 = some x) : (s116 g).run [.string ⟨⟨y0⟩⟩] [] = some (rx116 x) := r116_c hx
abbrev sums116 (R02_Must : (List UInt8) → Int → Int → Option Int) : List (Nat × Summ) := [(74, s74 R02_Must)]
def head116_1 (s1 : List UInt8) (i : Int) (out1 : List Int) : VM :=
  ⟨⟨116, 24, [(0, .string ⟨⟨s1⟩⟩), (3, .slice (some ⟨0, 0, none⟩) out1.length 1), (4, .int .i64 i)], [.code k116_14, .inLoop k116_14, .inBlock 0, .code k116_19], [], false, none⟩, [], [(0, .row true (vI .i64 out1))], 1⟩
theorem loop116_1 (R02_Must : (List UInt8) → Int → Int → Option Int) (hS : SumsOK Try.prog (aget (sums116 R02_Must))) (res : List Int) : ∀ fuel (st : (List UInt8) × Int × (List Int)) (o : List Int), iter (fun st => R03_Words_s1 R02_Must st.1 st.2.1 st.2.2) fuel st = some o → (o = res) →
    Leads Try.prog 116 0 (head116_1 st.1 st.2.1 st.2.2) (fun v H _ => Res 0 (rx116 res) v H) := by
  intro fuel st o h hc
  refine iter_leads (head := fun st => head116_1 st.1 st.2.1 st.2.2) (C := fun o => (o = res)) ?_ fuel st o h hc
  clear h hc o st fuel
  intro st o h hc
  obtain ⟨s1, i, out1⟩ := st
  replace h : R03_Words_s1 R02_Must s1 i out1 = some o := h
  show Leads Try.prog 116 0 (head116_1 s1 i out1) (fun v H _ => Res 0 (rx116 res) v H)
  unfold R03_Words_s1 at h
  refine ev_ok tab_ok hS true 3000 ?_
  conv => whnf
  refine br.h2 h ?_ ?_ ?_
  · rfl
  · clear h; intro hb h; conv => whnf
    all_goals (cases h; cases hc)
    all_goals exact Res.of [0] rfl (nw_s (rn_I) (hs_row rfl) nw_0) (by decide) (js_l (by decide) js_0) wr_0
  clear h; intro hb h; conv => whnf
  replace h := obind.elim h; obtain ⟨m, hy, h⟩ := h
  refine sumK.q rfl rfl (r74_eq hy) rfl rfl rfl ?_
  conv => whnf
  replace h := oreq.elim h; obtain ⟨hb, h⟩ := h
  refine req.intro (ap_req (of_decide_eq_true hb) (by first | rfl | omega | (simp; done) | (simp; omega) | (simp at *; omega)) rfl (by first | rfl | omega | (simp; done) | (simp; omega) | (simp at *; omega)) (by first | rfl | exact vI_one _ _ | exact vS_one _ | exact vB_one _ | exact vT_one (by first | exact cicmp_Message_one | exact capi_Addr_one | exact coctet_Reader_one | exact cArr2_Int_one | exact cArr4_Arr2_Int_one | exact cruntime_errorAddressString_one | exact cudp_Head_one | exact cipsix_Head_one | exact cipfour_Head_one | exact capi_Tuple_one | exact ctcp_Head_one) _ | (rw [ofBytes_vI]; exact vI_one _ _) | simp [vI_one, vS_one, vB_one, vI_drop, vI_take, vS_drop, vS_take]) rfl) ?_
  conv => whnf
  let row : List Int := out1 ++ [m]
  refine pk_apI (xs := out1) (ys := [m]) rfl (by first | rfl | omega) (by first | (simp; done) | (simp; omega)) (by first | (simp; done) | (simp; omega)) ?_
  conv => whnf
  cases h; simp only [Sum.elim_inl, head116_1] at hc
  refine Leads.re hc [(0, 2)] rfl ?_ ?_ <;> (repeat' first | exact trivial | refine ⟨⟨_, rfl, rfl⟩, ?_⟩ | refine ⟨⟨_, _, rfl, rfl, .rowF (vI_flat _ _) id⟩, ?_⟩ | refine ⟨⟨_, _, rfl, rfl, .rowF (vS_flat _) id⟩, ?_⟩ | refine ⟨⟨_, _, rfl, rfl, .rowF (vB_flat _) id⟩, ?_⟩ | refine ⟨⟨_, _, rfl, rfl, .rowF (vT_flat (by first | exact cicmp_Message_flat | exact capi_Addr_flat | exact coctet_Reader_flat | exact cArr2_Int_flat | exact cArr4_Arr2_Int_flat | exact cruntime_errorAddressString_flat | exact cudp_Head_flat | exact cipsix_Head_flat | exact cipfour_Head_flat | exact capi_Tuple_flat | exact ctcp_Head_flat) _) id⟩, ?_⟩ | refine ⟨⟨_, _, rfl, rfl, .tyF (vI_flat _ _)⟩, ?_⟩ | refine ⟨⟨_, _, rfl, rfl, .ty rfl⟩, ?_⟩ | refine ⟨⟨_, _, rfl, rfl, .cells rfl⟩, ?_⟩ | refine ⟨⟨_, _, rfl, rfl, .row rfl id⟩, ?_⟩ | refine ⟨⟨_, _, rfl, rfl, .cr rfl⟩, ?_⟩ | refine ⟨⟨_, _, rfl, rfl, .rc rfl⟩, ?_⟩ | refine ⟨⟨_, _, rfl, rfl, .marks⟩, ?_⟩ | refine ⟨⟨_, _, rfl, rfl, .siter _ _⟩, ?_⟩ | refine ⟨⟨_, _, rfl, rfl, .loop rfl rfl rfl rfl (by repeat' first | exact trivial | refine ⟨rfl, ?_⟩) rfl rfl rfl rfl⟩, ?_⟩)
theorem leads116 (R02_Must : (List UInt8) → Int → Int → Option Int) (hS : SumsOK Try.prog (aget (sums116 R02_Must))) (s : List UInt8) (res : List Int) (h : R03_WordsF R02_Must s = some res) :
    Leads Try.prog 116 0 ⟨⟨116, 24, [(0, .string ⟨⟨s⟩⟩)], [.code k116_23], [], false, none⟩, [], [], 0⟩ (fun v H _ => Res 0 (rx116 res) v H) := by
  unfold R03_WordsF at h
  refine ev_ok tab_ok hS true 3000 ?_
  conv => whnf
  refine br.h2 h ?_ ?_ ?_
  · rfl
  · clear h; intro hb h; conv => whnf
    have hl := loop116_1 R02_Must hS res _ _ _ h rfl; simp only [head116_1] at hl
    refine Leads.nilT 3 1 ?_
    refine Leads.re hl [(0, 0)] rfl ?_ ?_ <;> (repeat' first | exact trivial | refine ⟨⟨_, rfl, rfl⟩, ?_⟩ | refine ⟨⟨_, _, rfl, rfl, .rowF (vI_flat _ _) id⟩, ?_⟩ | refine ⟨⟨_, _, rfl, rfl, .rowF (vS_flat _) id⟩, ?_⟩ | refine ⟨⟨_, _, rfl, rfl, .rowF (vB_flat _) id⟩, ?_⟩ | refine ⟨⟨_, _, rfl, rfl, .rowF (vT_flat (by first | exact cicmp_Message_flat | exact capi_Addr_flat | exact coctet_Reader_flat | exact cArr2_Int_flat | exact cArr4_Arr2_Int_flat | exact cruntime_errorAddressString_flat | exact cudp_Head_flat | exact cipsix_Head_flat | exact cipfour_Head_flat | exact capi_Tuple_flat | exact ctcp_Head_flat) _) id⟩, ?_⟩ | refine ⟨⟨_, _, rfl, rfl, .tyF (vI_flat _ _)⟩, ?_⟩ | refine ⟨⟨_, _, rfl, rfl, .ty rfl⟩, ?_⟩ | refine ⟨⟨_, _, rfl, rfl, .cells rfl⟩, ?_⟩ | refine ⟨⟨_, _, rfl, rfl, .row rfl id⟩, ?_⟩ | refine ⟨⟨_, _, rfl, rfl, .cr rfl⟩, ?_⟩ | refine ⟨⟨_, _, rfl, rfl, .rc rfl⟩, ?_⟩ | refine ⟨⟨_, _, rfl, rfl, .marks⟩, ?_⟩ | refine ⟨⟨_, _, rfl, rfl, .siter _ _⟩, ?_⟩ | refine ⟨⟨_, _, rfl, rfl, .loop rfl rfl rfl rfl (by repeat' first | exact trivial | refine ⟨rfl, ?_⟩) rfl rfl rfl rfl⟩, ?_⟩)
  clear h; intro hb h; conv => whnf
  replace h := oreq.elim h; obtain ⟨hb, h⟩ := h
  first | (refine req.intro hb ?_; conv => whnf) | skip
  have hl := loop116_1 R02_Must hS res _ _ _ h rfl; simp only [head116_1] at hl
  refine Leads.nilT 3 1 ?_
  refine Leads.re hl [(0, 0)] rfl ?_ ?_ <;> (repeat' first | exact trivial | refine ⟨⟨_, rfl, rfl⟩, ?_⟩ | refine ⟨⟨_, _, rfl, rfl, .rowF (vI_flat _ _) id⟩, ?_⟩ | refine ⟨⟨_, _, rfl, rfl, .rowF (vS_flat _) id⟩, ?_⟩ | refine ⟨⟨_, _, rfl, rfl, .rowF (vB_flat _) id⟩, ?_⟩ | refine ⟨⟨_, _, rfl, rfl, .rowF (vT_flat (by first | exact cicmp_Message_flat | exact capi_Addr_flat | exact coctet_Reader_flat | exact cArr2_Int_flat | exact cArr4_Arr2_Int_flat | exact cruntime_errorAddressString_flat | exact cudp_Head_flat | exact cipsix_Head_flat | exact cipfour_Head_flat | exact capi_Tuple_flat | exact ctcp_Head_flat) _) id⟩, ?_⟩ | refine ⟨⟨_, _, rfl, rfl, .tyF (vI_flat _ _)⟩, ?_⟩ | refine ⟨⟨_, _, rfl, rfl, .ty rfl⟩, ?_⟩ | refine ⟨⟨_, _, rfl, rfl, .cells rfl⟩, ?_⟩ | refine ⟨⟨_, _, rfl, rfl, .row rfl id⟩, ?_⟩ | refine ⟨⟨_, _, rfl, rfl, .cr rfl⟩, ?_⟩ | refine ⟨⟨_, _, rfl, rfl, .rc rfl⟩, ?_⟩ | refine ⟨⟨_, _, rfl, rfl, .marks⟩, ?_⟩ | refine ⟨⟨_, _, rfl, rfl, .siter _ _⟩, ?_⟩ | refine ⟨⟨_, _, rfl, rfl, .loop rfl rfl rfl rfl (by repeat' first | exact trivial | refine ⟨rfl, ?_⟩) rfl rfl rfl rfl⟩, ?_⟩)
theorem ok116 (R02_Must : (List UInt8) → Int → Int → Option Int) (hS : SumsOK Try.prog (aget (sums116 R02_Must))) : SumOK Try.prog 116 (s116 (R03_WordsF R02_Must)) := by
  refine SumOK.of_leads tab_ok (fun ar os r ha hr => ?_) ⟨Try.f116, rfl, by decide, rfl⟩
  replace hr : r116 (R03_WordsF R02_Must) ar (conts os) = some r := hr
  unfold r116 at hr
  generalize hc : conts os = C at hr
  replace hr := dV.elim hr; obtain ⟨v0, l1, y0, rfl, e0, hr⟩ := hr; obtain rfl := asS_eq _ _ e0
  replace hr := dFin hr; obtain ⟨rfl, rfl, x, h, rfl⟩ := hr
  obtain rfl := kinds_nil hc
  exact ⟨_, rfl, leads116 R02_Must hS _ x h⟩
def R03_Words : (List UInt8) → Option (List Int) := R03_WordsF R02_Must
theorem lift116 : SumOK Try.prog 116 (s116 R03_Words) := ok116 R02_Must (SumsOK.of_tab ⟨lift74, trivial⟩)
def R03_SumF (R03_Add : (List Int) → Option Int) (R03_Words : (List UInt8) → Option (List Int)) (s : List UInt8) : Option Int :=
  (R03_Words s).bind fun w =>
  (R03_Add w).bind fun a =>
  some (a)
def rx75 (x : Int) : SRes := ⟨.int .i64 x, [], []⟩
def r75 (g : (List UInt8) → Option Int) : Dec := dV asS fun (y0 : List UInt8) => dEnd (ofG (g y0) rx75)
theorem r75_c {g : (List UInt8) → Option Int} {y0 : List UInt8} {x : Int} (hx : g y0 = some x) : r75 g [.string ⟨⟨y0⟩⟩] [] = some (rx75 x) := (dV_eq (asS_c)).trans (ofG_eq hx)
def s75 (g : (List UInt8) → Option Int) : Summ := ⟨[.v], r75 g⟩
theorem r75_eq {g : (List UInt8) → Option Int} {y0 : List UInt8} {x : Int} (hx : g y0 = some x) : (s75 g).run [.string ⟨⟨y0⟩⟩] [] = some (rx75 x) := r75_c hx
abbrev sums75 (R03_Add : (List Int) → Option Int) (R03_Words : (List UInt8) → Option (List Int)) : List (Nat × Summ) := [(115, s115 R03_Add), (116, s116 R03_Words)]
theorem leads75 (R03_Add : (List Int) → Option Int) (R03_Words : (List UInt8) → Option (List Int)) (hS : SumsOK Try.prog (aget (sums75 R03_Add R03_Words))) (s : List UInt8) (res : Int) (h : R03_SumF R03_Add R03_Words s = some res) :
    Leads Try.prog 75 0 ⟨⟨75, 6, [(0, .string ⟨⟨s⟩⟩)], [.code k75_3], [], false, none⟩, [], [], 0⟩ (fun v H _ => Res 0 (rx75 res) v H) := by
  unfold R03_SumF at h
  refine ev_ok tab_ok hS true 3000 ?_
  conv => whnf
  replace h := obind.elim h; obtain ⟨w, hy, h⟩ := h
  refine sumK.introF [] (sumRun_of (aqs := [.string ⟨⟨s⟩⟩]) (ws := []) (n := 1) (m := 0) (t' := 1) (ra_cons rfl rfl ra_nil) rfl (by rfl) (r116_eq hy) rfl rfl rfl rfl wb_nil (an_cons (rn_I) an_nil) rfl) ?_
  conv => whnf
  replace h := obind.elim h; obtain ⟨a, hy, h⟩ := h
  refine sumK.introF [] (sumRun_of (aqs := [.slice (some ⟨0, 0, none⟩) (w : List Int).length 1]) (ws := [.win 0 0 (w.length * 1) false]) (n := 0) (m := 0) (t' := 1) (ra_cons (by first | rfl | exact ra_allI rfl rfl (by first | rfl | omega) (by first | rfl | (simp; done)) | exact ra_slI rfl rfl (by first | rfl | omega) (by first | rfl | omega) (by first | omega | (simp at *; omega))) rfl ra_nil) rfl (by rfl) (r115_eq hy) rfl rfl rfl rfl (wb_skip rfl wb_nil) an_nil rfl) ?_
  conv => whnf
  all_goals (cases h; exact Res.z rfl rfl rfl)
theorem ok75 (R03_Add : (List Int) → Option Int) (R03_Words : (List UInt8) → Option (List Int)) (hS : SumsOK Try.prog (aget (sums75 R03_Add R03_Words))) : SumOK Try.prog 75 (s75 (R03_SumF R03_Add R03_Words)) := by
  refine SumOK.of_leads tab_ok (fun ar os r ha hr => ?_) ⟨Try.f75, rfl, by decide, rfl⟩
  replace hr : r75 (R03_SumF R03_Add R03_Words) ar (conts os) = some r := hr
  unfold r75 at hr
  generalize hc : conts os = C at hr
  replace hr := dV.elim hr; obtain ⟨v0, l1, y0, rfl, e0, hr⟩ := hr; obtain rfl := asS_eq _ _ e0
  replace hr := dFin hr; obtain ⟨rfl, rfl, x, h, rfl⟩ := hr
  obtain rfl := kinds_nil hc
  exact ⟨_, rfl, leads75 R03_Add R03_Words hS _ x h⟩
def R03_Sum : (List UInt8) → Option Int := R03_SumF R03_Add R03_Words
theorem lift75 : SumOK Try.prog 75 (s75 R03_Sum) := ok75 R03_Add R03_Words (SumsOK.of_tab ⟨lift115, lift116, trivial⟩)
def R03_OfF (R03_Sum : (List UInt8) → Option Int) (s : List UInt8) : Option Int :=
  (R03_Sum s).bind fun s1 =>
  some (wI .i64 (65535 - s1))
def rx68 (x : Int) : SRes := ⟨.int .i64 x, [], []⟩
def r68 (g : (List UInt8) → Option Int) : Dec := dV asS fun (y0 : List UInt8) => dEnd (ofG (g y0) rx68)
theorem r68_c {g : (List UInt8) → Option Int} {y0 : List UInt8} {x : Int} (hx : g y0 = some x) : r68 g [.string ⟨⟨y0⟩⟩] [] = some (rx68 x) := (dV_eq (asS_c)).trans (ofG_eq hx)
def s68 (g : (List UInt8) → Option Int) : Summ := ⟨[.v], r68 g⟩
theorem r68_eq {g : (List UInt8) → Option Int} {y0 : List UInt8} {x : Int} (hx : g y0 = some x) : (s68 g).run [.string ⟨⟨y0⟩⟩] [] = some (rx68 x) := r68_c hx
abbrev sums68 (R03_Sum : (List UInt8) → Option Int) : List (Nat × Summ) := [(75, s75 R03_Sum)]
theorem leads68 (R03_Sum : (List UInt8) → Option Int) (hS : SumsOK Try.prog (aget (sums68 R03_Sum))) (s : List UInt8) (res : Int) (h : R03_OfF R03_Sum s = some res) :
    Leads Try.prog 68 0 ⟨⟨68, 6, [(0, .string ⟨⟨s⟩⟩)], [.code k68_3], [], false, none⟩, [], [], 0⟩ (fun v H _ => Res 0 (rx68 res) v H) := by
  unfold R03_OfF at h
  refine ev_ok tab_ok hS true 3000 ?_
  conv => whnf
  replace h := obind.elim h; obtain ⟨s1, hy, h⟩ := h
  refine sumK.q rfl rfl (r75_eq hy) rfl rfl rfl ?_
  conv => whnf
  all_goals (cases h; exact Res.z rfl rfl rfl)
theorem ok68 (R03_Sum : (List UInt8) → Option Int) (hS : SumsOK Try.prog (aget (sums68 R03_Sum))) : SumOK Try.prog 68 (s68 (R03_OfF R03_Sum)) := by
  refine SumOK.of_leads tab_ok (fun ar os r ha hr => ?_) ⟨Try.f68, rfl, by decide, rfl⟩
  replace hr : r68 (R03_OfF R03_Sum) ar (conts os) = some r := hr
  unfold r68 at hr
  generalize hc : conts os = C at hr
  replace hr := dV.elim hr; obtain ⟨v0, l1, y0, rfl, e0, hr⟩ := hr; obtain rfl := asS_eq _ _ e0
  replace hr := dFin hr; obtain ⟨rfl, rfl, x, h, rfl⟩ := hr
  obtain rfl := kinds_nil hc
  exact ⟨_, rfl, leads68 R03_Sum hS _ x h⟩
def R03_Of : (List UInt8) → Option Int := R03_OfF R03_Sum
theorem lift68 : SumOK Try.prog 68 (s68 R03_Of) := ok68 R03_Sum (SumsOK.of_tab ⟨lift75, trivial⟩)
def check_OfF (check_Sum : (List UInt8) → Option Int) (s : List UInt8) : Option Int :=
  (check_Sum s).bind fun s1 =>
  some (wI .i64 (65535 - s1))
def rx64 (x : Int) : SRes := ⟨.int .i64 x, [], []⟩
def r64 (g : (List UInt8) → Option Int) : Dec := dV asS fun (y0 : List UInt8) => dEnd (ofG (g y0) rx64)
theorem r64_c {g : (List UInt8) → Option Int} {y0 : List UInt8} {x : Int} (hx : g y0 = some x) : r64 g [.string ⟨⟨y0⟩⟩] [] = some (rx64 x) := (dV_eq (asS_c)).trans (ofG_eq hx)
def s64 (g : (List UInt8) → Option Int) : Summ := ⟨[.v], r64 g⟩
theorem r64_eq {g : (List UInt8) → Option Int} {y0 : List UInt8} {x : Int} (hx : g y0 = some x) : (s64 g).run [.string ⟨⟨y0⟩⟩] [] = some (rx64 x) := r64_c hx
abbrev sums64 (check_Sum : (List UInt8) → Option Int) : List (Nat × Summ) := [(113, s113 check_Sum)]
theorem leads64 (check_Sum : (List UInt8) → Option Int) (hS : SumsOK Try.prog (aget (sums64 check_Sum))) (s : List UInt8) (res : Int) (h : check_OfF check_Sum s = some res) :
    Leads Try.prog 64 0 ⟨⟨64, 6, [(0, .string ⟨⟨s⟩⟩)], [.code k64_3], [], false, none⟩, [], [], 0⟩ (fun v H _ => Res 0 (rx64 res) v H) := by
  unfold check_OfF at h
  refine ev_ok tab_ok hS true 3000 ?_
  conv => whnf
  replace h := obind.elim h; obtain ⟨s1, hy, h⟩ := h
  refine sumK.q rfl rfl (r113_eq hy) rfl rfl rfl ?_
  conv => whnf
  all_goals (cases h; exact Res.z rfl rfl rfl)
theorem ok64 (check_Sum : (List UInt8) → Option Int) (hS : SumsOK Try.prog (aget (sums64 check_Sum))) : SumOK Try.prog 64 (s64 (check_OfF check_Sum)) := by
  refine SumOK.of_leads tab_ok (fun ar os r ha hr => ?_) ⟨Try.f64, rfl, by decide, rfl⟩
  replace hr : r64 (check_OfF check_Sum) ar (conts os) = some r := hr
  unfold r64 at hr
  generalize hc : conts os = C at hr
  replace hr := dV.elim hr; obtain ⟨v0, l1, y0, rfl, e0, hr⟩ := hr; obtain rfl := asS_eq _ _ e0
  replace hr := dFin hr; obtain ⟨rfl, rfl, x, h, rfl⟩ := hr
  obtain rfl := kinds_nil hc
  exact ⟨_, rfl, leads64 check_Sum hS _ x h⟩
def check_Of : (List UInt8) → Option Int := check_OfF check_Sum
theorem lift64 : SumOK Try.prog 64 (s64 check_Of) := ok64 check_Sum (SumsOK.of_tab ⟨lift113, trivial⟩)
def check_RightF (check_Sum : (List UInt8) → Option Int) (s : List UInt8) : Option Bool :=
  (check_Sum s).bind fun s1 =>
  some (s1 == 65535)
def rx73 (x : Bool) : SRes := ⟨.bool x, [], []⟩
def r73 (g : (List UInt8) → Option Bool) : Dec := dV asS fun (y0 : List UInt8) => dEnd (ofG (g y0) rx73)
theorem r73_c {g : (List UInt8) → Option Bool} {y0 : List UInt8} {x : Bool} (hx : g y0 = some x) : r73 g [.string ⟨⟨y0⟩⟩] [] = some (rx73 x) := (dV_eq (asS_c)).trans (ofG_eq hx)
def s73 (g : (List UInt8) → Option Bool) : Summ := ⟨[.v], r73 g⟩
theorem r73_eq {g : (List UInt8) → Option Bool} {y0 : List UInt8} {x : Bool} (hx : g y0 = some x) : (s73 g).run [.string ⟨⟨y0⟩⟩] [] = some (rx73 x) := r73_c hx
abbrev sums73 (check_Sum : (List UInt8) → Option Int) : List (Nat × Summ) := [(113, s113 check_Sum)]
theorem leads73 (check_Sum : (List UInt8) → Option Int) (hS : SumsOK Try.prog (aget (sums73 check_Sum))) (s : List UInt8) (res : Bool) (h : check_RightF check_Sum s = some res) :
    Leads Try.prog 73 0 ⟨⟨73, 6, [(0, .string ⟨⟨s⟩⟩)], [.code k73_3], [], false, none⟩, [], [], 0⟩ (fun v H _ => Res 0 (rx73 res) v H) := by
  unfold check_RightF at h
  refine ev_ok tab_ok hS true 3000 ?_
  conv => whnf
  replace h := obind.elim h; obtain ⟨s1, hy, h⟩ := h
  refine sumK.q rfl rfl (r113_eq hy) rfl rfl rfl ?_
  conv => whnf
  all_goals (cases h; exact Res.z rfl rfl rfl)
theorem ok73 (check_Sum : (List UInt8) → Option Int) (hS : SumsOK Try.prog (aget (sums73 check_Sum))) : SumOK Try.prog 73 (s73 (check_RightF check_Sum)) := by
  refine SumOK.of_leads tab_ok (fun ar os r ha hr => ?_) ⟨Try.f73, rfl, by decide, rfl⟩
  replace hr : r73 (check_RightF check_Sum) ar (conts os) = some r := hr
  unfold r73 at hr
  generalize hc : conts os = C at hr
  replace hr := dV.elim hr; obtain ⟨v0, l1, y0, rfl, e0, hr⟩ := hr; obtain rfl := asS_eq _ _ e0
  replace hr := dFin hr; obtain ⟨rfl, rfl, x, h, rfl⟩ := hr
  obtain rfl := kinds_nil hc
  exact ⟨_, rfl, leads73 check_Sum hS _ x h⟩
def check_Right : (List UInt8) → Option Bool := check_RightF check_Sum
theorem lift73 : SumOK Try.prog 73 (s73 check_Right) := ok73 check_Sum (SumsOK.of_tab ⟨lift113, trivial⟩)
def addr_RightF (a : api_Addr) : Option Bool :=
  cond (a.V6)
    (
    some (true))
    (
    cond (a.Hi == 0)
      (
      some (decide (a.Lo < 4294967296)))
      (
      some (false)))
def rx85 (x : Bool) : SRes := ⟨.bool x, [], []⟩
def r85 (g : api_Addr → Option Bool) : Dec := dV uvapi_Addr fun (y0 : api_Addr) => dEnd (ofG (g y0) rx85)
theorem r85_c {g : api_Addr → Option Bool} {y0 : api_Addr} {x : Bool} (hx : g y0 = some x) : r85 g [.agg ⟨[.bool y0.V6, .int .u64 y0.Hi, .int .u64 y0.Lo]⟩] [] = some (rx85 x) := (dV_eq (uvapi_Addr_c _)).trans (ofG_eq hx)
def s85 (g : api_Addr → Option Bool) : Summ := ⟨[.v], r85 g⟩
theorem r85_eq {g : api_Addr → Option Bool} {y0 : api_Addr} {x : Bool} (hx : g y0 = some x) : (s85 g).run [.agg ⟨[.bool y0.V6, .int .u64 y0.Hi, .int .u64 y0.Lo]⟩] [] = some (rx85 x) := r85_c hx
abbrev sums85 : List (Nat × Summ) := []
theorem leads85 (hS : SumsOK Try.prog (aget (sums85))) (a : api_Addr) (res : Bool) (h : addr_RightF a = some res) :
    Leads Try.prog 85 0 ⟨⟨85, 15, [(0, .agg ⟨[.bool a.V6, .int .u64 a.Hi, .int .u64 a.Lo]⟩)], [.code k85_3], [], false, none⟩, [], [], 0⟩ (fun v H _ => Res 0 (rx85 res) v H) := by
  unfold addr_RightF at h
  refine ev_ok tab_ok hS true 3000 ?_
  conv => whnf
  refine br.h h ?_ ?_ ?_
  · rfl
  · clear h; intro hb h; conv => whnf
    all_goals (cases h; exact Res.z rfl rfl rfl)
  clear h; intro hb h; conv => whnf
  refine br.h h ?_ ?_ ?_
  · rfl
  · clear h; intro hb h; conv => whnf
    all_goals (cases h; exact Res.z rfl rfl rfl)
  clear h; intro hb h; conv => whnf
  all_goals (cases h; exact Res.z rfl rfl rfl)
theorem ok85 (hS : SumsOK Try.prog (aget (sums85))) : SumOK Try.prog 85 (s85 (addr_RightF)) := by
  refine SumOK.of_leads tab_ok (fun ar os r ha hr => ?_) ⟨Try.f85, rfl, by decide, rfl⟩
  replace hr : r85 (addr_RightF) ar (conts os) = some r := hr
  unfold r85 at hr
  generalize hc : conts os = C at hr
  replace hr := dV.elim hr; obtain ⟨v0, l1, y0, rfl, e0, hr⟩ := hr; obtain rfl := uvapi_Addr_eq _ _ e0
  replace hr := dFin hr; obtain ⟨rfl, rfl, x, h, rfl⟩ := hr
  obtain rfl := kinds_nil hc
  exact ⟨_, rfl, leads85 hS _ x h⟩
def addr_Right : api_Addr → Option Bool := addr_RightF
theorem lift85 : SumOK Try.prog 85 (s85 addr_Right) := ok85 (SumsOK.of_tab trivial)
def addr_PutF (addr_Right : api_Addr → Option Bool) (octet_Put : Int → Int → Option (List UInt8)) (a : api_Addr) : Option (List UInt8) :=
  (addr_Right a).bind fun xr =>
  cond (!xr)
    (
    some ([]))
    (
    cond (a.V6)
      (
      (octet_Put a.Hi 8).bind fun p =>
      (octet_Put a.Lo 8).bind fun p1 =>
      oreq (decide (p.length + p1.length < 2 ^ 63)) <|
      some (p ++ p1))
      (
      (octet_Put a.Lo 4).bind fun p2 =>
      some (p2)))
def rx78 (x : List UInt8) : SRes := ⟨.string ⟨⟨x⟩⟩, [], []⟩
def r78 (g : api_Addr → Option (List UInt8)) : Dec := dV uvapi_Addr fun (y0 : api_Addr) => dEnd (ofG (g y0) rx78)
theorem r78_c {g : api_Addr → Option (List UInt8)} {y0 : api_Addr} {x : List UInt8} (hx : g y0 = some x) : r78 g [.agg ⟨[.bool y0.V6, .int .u64 y0.Hi, .int .u64 y0.Lo]⟩] [] = some (rx78 x) := (dV_eq (uvapi_Addr_c _)).trans (ofG_eq hx)
def s78 (g : api_Addr → Option (List UInt8)) : Summ := ⟨[.v], r78 g⟩
theorem r78_eq {g : api_Addr → Option (List UInt8)} {y0 : api_Addr} {x : List UInt8} (hx : g y0 = some x) : (s78 g).run [.agg ⟨[.bool y0.V6, .int .u64 y0.Hi, .int .u64 y0.Lo]⟩] [] = some (rx78 x) := r78_c hx
abbrev sums78 (addr_Right : api_Addr → Option Bool) (octet_Put : Int → Int → Option (List UInt8)) : List (Nat × Summ) := [(85, s85 addr_Right), (62, s62 octet_Put)]
theorem leads78 (addr_Right : api_Addr → Option Bool) (octet_Put : Int → Int → Option (List UInt8)) (hS : SumsOK Try.prog (aget (sums78 addr_Right octet_Put))) (a : api_Addr) (res : List UInt8) (h : addr_PutF addr_Right octet_Put a = some res) :
    Leads Try.prog 78 0 ⟨⟨78, 20, [(0, .agg ⟨[.bool a.V6, .int .u64 a.Hi, .int .u64 a.Lo]⟩)], [.code k78_15], [], false, none⟩, [], [], 0⟩ (fun v H _ => Res 0 (rx78 res) v H) := by
  unfold addr_PutF at h
  refine ev_ok tab_ok hS true 3000 ?_
  conv => whnf
  replace h := obind.elim h; obtain ⟨xr, hy, h⟩ := h
  refine sumK.q rfl rfl (r85_eq hy) rfl rfl rfl ?_
  conv => whnf
  refine br.h h ?_ ?_ ?_
  · rfl
  · clear h; intro hb h; conv => whnf
    all_goals (cases h; exact Res.z rfl rfl rfl)
  clear h; intro hb h; conv => whnf
  refine br.h2 h ?_ ?_ ?_
  · rfl
  · clear h; intro hb h; conv => whnf
    replace h := obind.elim h; obtain ⟨p2, hy, h⟩ := h
    refine sumK.q rfl rfl (r62_eq hy) rfl rfl rfl ?_
    conv => whnf
    all_goals (cases h; exact Res.z rfl rfl rfl)
  clear h; intro hb h; conv => whnf
  replace h := obind.elim h; obtain ⟨p, hy, h⟩ := h
  refine sumK.q rfl rfl (r62_eq hy) rfl rfl rfl ?_
  conv => whnf
  replace h := obind.elim h; obtain ⟨p1, hy, h⟩ := h
  refine sumK.q rfl rfl (r62_eq hy) rfl rfl rfl ?_
  conv => whnf
  replace h := oreq.elim h; obtain ⟨hb, h⟩ := h
  first | (refine req.intro hb ?_; conv => whnf) | skip
  all_goals (cases h; exact Res.z rfl rfl rfl)
theorem ok78 (addr_Right : api_Addr → Option Bool) (octet_Put : Int → Int → Option (List UInt8)) (hS : SumsOK Try.prog (aget (sums78 addr_Right octet_Put))) : SumOK Try.prog 78 (s78 (addr_PutF addr_Right octet_Put)) := by
  refine SumOK.of_leads tab_ok (fun ar os r ha hr => ?_) ⟨Try.f78, rfl, by decide, rfl⟩
  replace hr : r78 (addr_PutF addr_Right octet_Put) ar (conts os) = some r := hr
  unfold r78 at hr
  generalize hc : conts os = C at hr
  replace hr := dV.elim hr; obtain ⟨v0, l1, y0, rfl, e0, hr⟩ := hr; obtain rfl := uvapi_Addr_eq _ _ e0
  replace hr := dFin hr; obtain ⟨rfl, rfl, x, h, rfl⟩ := hr
  obtain rfl := kinds_nil hc
  exact ⟨_, rfl, leads78 addr_Right octet_Put hS _ x h⟩
def addr_Put : api_Addr → Option (List UInt8) := addr_PutF addr_Right octet_Put
theorem lift78 : SumOK Try.prog 78 (s78 addr_Put) := ok78 addr_Right octet_Put (SumsOK.of_tab ⟨lift85, lift62, trivial⟩)
def R04_RightF (a : api_Addr) : Option Bool :=
  cond (a.V6)
    (
    some (true))
    (
    cond (a.Hi == 0)
      (
      some (decide (a.Lo < 4294967296)))
      (
      some (false)))
def rx86 (x : Bool) : SRes := ⟨.bool x, [], []⟩
def r86 (g : api_Addr → Option Bool) : Dec := dV uvapi_Addr fun (y0 : api_Addr) => dEnd (ofG (g y0) rx86)
theorem r86_c {g : api_Addr → Option Bool} {y0 : api_Addr} {x : Bool} (hx : g y0 = some x) : r86 g [.agg ⟨[.bool y0.V6, .int .u64 y0.Hi, .int .u64 y0.Lo]⟩] [] = some (rx86 x) := (dV_eq (uvapi_Addr_c _)).trans (ofG_eq hx)
def s86 (g : api_Addr → Option Bool) : Summ := ⟨[.v], r86 g⟩
theorem r86_eq {g : api_Addr → Option Bool} {y0 : api_Addr} {x : Bool} (hx : g y0 = some x) : (s86 g).run [.agg ⟨[.bool y0.V6, .int .u64 y0.Hi, .int .u64 y0.Lo]⟩] [] = some (rx86 x) := r86_c hx
abbrev sums86 : List (Nat × Summ) := []
theorem leads86 (hS : SumsOK Try.prog (aget (sums86))) (a : api_Addr) (res : Bool) (h : R04_RightF a = some res) :
    Leads Try.prog 86 0 ⟨⟨86, 15, [(0, .agg ⟨[.bool a.V6, .int .u64 a.Hi, .int .u64 a.Lo]⟩)], [.code k86_3], [], false, none⟩, [], [], 0⟩ (fun v H _ => Res 0 (rx86 res) v H) := by
  unfold R04_RightF at h
  refine ev_ok tab_ok hS true 3000 ?_
  conv => whnf
  refine br.h h ?_ ?_ ?_
  · rfl
  · clear h; intro hb h; conv => whnf
    all_goals (cases h; exact Res.z rfl rfl rfl)
  clear h; intro hb h; conv => whnf
  refine br.h h ?_ ?_ ?_
  · rfl
  · clear h; intro hb h; conv => whnf
    all_goals (cases h; exact Res.z rfl rfl rfl)
  clear h; intro hb h; conv => whnf
  all_goals (cases h; exact Res.z rfl rfl rfl)
theorem ok86 (hS : SumsOK Try.prog (aget (sums86))) : SumOK Try.prog 86 (s86 (R04_RightF)) := by
  refine SumOK.of_leads tab_ok (fun ar os r ha hr => ?_) ⟨Try.f86, rfl, by decide, rfl⟩
  replace hr : r86 (R04_RightF) ar (conts os) = some r := hr
  unfold r86 at hr
  generalize hc : conts os = C at hr
  replace hr := dV.elim hr; obtain ⟨v0, l1, y0, rfl, e0, hr⟩ := hr; obtain rfl := uvapi_Addr_eq _ _ e0
  replace hr := dFin hr; obtain ⟨rfl, rfl, x, h, rfl⟩ := hr
  obtain rfl := kinds_nil hc
  exact ⟨_, rfl, leads86 hS _ x h⟩
def R04_Right : api_Addr → Option Bool := R04_RightF
theorem lift86 : SumOK Try.prog 86 (s86 R04_Right) := ok86 (SumsOK.of_tab trivial)
def R04_PutF (R02_Put : Int → Int → Option (List UInt8)) (R04_Right : api_Addr → Option Bool) (a : api_Addr) : Option (List UInt8) :=
  (R04_Right a).bind fun xr =>
  cond (!xr)
    (
    some ([]))
    (
    cond (a.V6)
      (
      (R02_Put a.Hi 8).bind fun p =>
      (R02_Put a.Lo 8).bind fun p1 =>
      oreq (decide (p.length + p1.length < 2 ^ 63)) <|
      some (p ++ p1))
      (
      (R02_Put a.Lo 4).bind fun p2 =>
      some (p2)))
def rx81 (x : List UInt8) : SRes := ⟨.string ⟨⟨x⟩⟩, [], []⟩
def r81 (g : api_Addr → Option (List UInt8)) : Dec := dV uvapi_Addr fun (y0 : api_Addr) => dEnd (ofG (g y0) rx81)
theorem r81_c {g : api_Addr → Option (List UInt8)} {y0 : api_Addr} {x : List UInt8} (hx : g y0 = some x) : r81 g [.agg ⟨[.bool y0.V6, .int .u64 y0.Hi, .int .u64 y0.Lo]⟩] [] = some (rx81 x) := (dV_eq (uvapi_Addr_c _)).trans (ofG_eq hx)
def s81 (g : api_Addr → Option (List UInt8)) : Summ := ⟨[.v], r81 g⟩
theorem r81_eq {g : api_Addr → Option (List UInt8)} {y0 : api_Addr} {x : List UInt8} (hx : g y0 = some x) : (s81 g).run [.agg ⟨[.bool y0.V6, .int .u64 y0.Hi, .int .u64 y0.Lo]⟩] [] = some (rx81 x) := r81_c hx
abbrev sums81 (R02_Put : Int → Int → Option (List UInt8)) (R04_Right : api_Addr → Option Bool) : List (Nat × Summ) := [(67, s67 R02_Put), (86, s86 R04_Right)]
theorem leads81 (R02_Put : Int → Int → Option (List UInt8)) (R04_Right : api_Addr → Option Bool) (hS : SumsOK Try.prog (aget (sums81 R02_Put R04_Right))) (a : api_Addr) (res : List UInt8) (h : R04_PutF R02_Put R04_Right a = some res) :
    Leads Try.prog 81 0 ⟨⟨81, 18, [(0, .agg ⟨[.bool a.V6, .int .u64 a.Hi, .int .u64 a.Lo]⟩)], [.code k81_15], [], false, none⟩, [], [], 0⟩ (fun v H _ => Res 0 (rx81 res) v H) := by
  unfold R04_PutF at h
  refine ev_ok tab_ok hS true 3000 ?_
  conv => whnf
  replace h := obind.elim h; obtain ⟨xr, hy, h⟩ := h
  refine sumK.q rfl rfl (r86_eq hy) rfl rfl rfl ?_
  conv => whnf
  refine br.h h ?_ ?_ ?_
  · rfl
  · clear h; intro hb h; conv => whnf
    all_goals (cases h; exact Res.z rfl rfl rfl)
  clear h; intro hb h; conv => whnf
  refine br.h2 h ?_ ?_ ?_
  · rfl
  · clear h; intro hb h; conv => whnf
    replace h := obind.elim h; obtain ⟨p2, hy, h⟩ := h
    refine sumK.q rfl rfl (r67_eq hy) rfl rfl rfl ?_
    conv => whnf
    all_goals (cases h; exact Res.z rfl rfl rfl)
  clear h; intro hb h; conv => whnf
  replace h := obind.elim h; obtain ⟨p, hy, h⟩ := h
  refine sumK.q rfl rfl (r67_eq hy) rfl rfl rfl ?_
  conv => whnf
  replace h := obind.elim h; obtain ⟨p1, hy, h⟩ := h
  refine sumK.q rfl rfl (r67_eq hy) rfl rfl rfl ?_
  conv => whnf
  replace h := oreq.elim h; obtain ⟨hb, h⟩ := h
  first | (refine req.intro hb ?_; conv => whnf) | skip
  all_goals (cases h; exact Res.z rfl rfl rfl)
theorem ok81 (R02_Put : Int → Int → Option (List UInt8)) (R04_Right : api_Addr → Option Bool) (hS : SumsOK Try.prog (aget (sums81 R02_Put R04_Right))) : SumOK Try.prog 81 (s81 (R04_PutF R02_Put R04_Right)) := by
  refine SumOK.of_leads tab_ok (fun ar os r ha hr => ?_) ⟨Try.f81, rfl, by decide, rfl⟩
  replace hr : r81 (R04_PutF R02_Put R04_Right) ar (conts os) = some r := hr
  unfold r81 at hr
  generalize hc : conts os = C at hr
  replace hr := dV.elim hr; obtain ⟨v0, l1, y0, rfl, e0, hr⟩ := hr; obtain rfl := uvapi_Addr_eq _ _ e0
  replace hr := dFin hr; obtain ⟨rfl, rfl, x, h, rfl⟩ := hr
  obtain rfl := kinds_nil hc
  exact ⟨_, rfl, leads81 R02_Put R04_Right hS _ x h⟩
def R04_Put : api_Addr → Option (List UInt8) := R04_PutF R02_Put R04_Right
theorem lift81 : SumOK Try.prog 81 (s81 R04_Put) := ok81 R02_Put R04_Right (SumsOK.of_tab ⟨lift67, lift86, trivial⟩)
def ipfour_row_s1 (octet_Put : Int → Int → Option (List UInt8)) (l : List Int) (i : Int) (c : List Int) : Option (Sum (Int × (List Int)) (List UInt8)) :=
  let t := decide ((wI .i64 (i + 1)) < (l.length : Int))
  cond (t)
    (
    oreq (decide ((0 : Int) ≤ i ∧ i < (l.length : Int))) <|
    (l[i.toNat]?).bind fun (e2 : Int) =>
    oreq (decide ((0 : Int) ≤ (wI .i64 (i + 1)) ∧ (wI .i64 (i + 1)) < (l.length : Int))) <|
    (l[(wI .i64 (i + 1)).toNat]?).bind fun (e3 : Int) =>
    (octet_Put (wI .u64 e2) e3).bind fun p1 =>
    oreq (decide ((c.length + p1.length) * 1 ≤ 2 ^ 47)) <|
    let row := c ++ (bI p1)
    some (.inl (wI .i64 (i + 2), row)))
    (
    oreq (decide (c.length < 2 ^ 63)) <|
    some (.inr (iB c)))
def ipfour_rowF (octet_Put : Int → Int → Option (List UInt8)) (l : List Int) : Option (List UInt8) :=
  cond (decide (1 < (l.length : Int)))
    (
    oreq (decide ((0 : Int) ≤ (0 : Int) ∧ (0 : Int) < (l.length : Int))) <|
    (l[0]?).bind fun (e : Int) =>
    oreq (decide ((0 : Int) ≤ (1 : Int) ∧ (1 : Int) < (l.length : Int))) <|
    (l[1]?).bind fun (e1 : Int) =>
    (octet_Put (wI .u64 e) e1).bind fun p =>
    oreq (decide (p.length * 1 ≤ 2 ^ 47)) <|
    iter (fun st => ipfour_row_s1 octet_Put l st.1 st.2) FUEL (2, bI p))
    (
    some ([]))
def rx77 (x : List UInt8) : SRes := ⟨.string ⟨⟨x⟩⟩, [], [none]⟩
def r77 (g : (List Int) → Option (List UInt8)) : Dec := dSl 0 1 (unL (asI .i64)) fun (y0 : List Int) => dEnd (ofG (g y0) rx77)
theorem r77_c {g : (List Int) → Option (List UInt8)} {y0 : List Int} {x : List UInt8} (hx : g y0 = some x) : r77 g [.slice (some ⟨0, 0, none⟩) y0.length 1] [some (vI .i64 y0)] = some (rx77 x) := (dSl_eq (unI_vI _ _)).trans (ofG_eq hx)
def s77 (g : (List Int) → Option (List UInt8)) : Summ := ⟨[.sl 1], r77 g⟩
theorem r77_eq {g : (List Int) → Option (List UInt8)} {y0 : List Int} {x : List UInt8} (hx : g y0 = some x) : (s77 g).run [.slice (some ⟨0, 0, none⟩) y0.length 1] [some (vI .i64 y0)] = some (rx77 x) := r77_c hx
abbrev sums77 (octet_Put : Int → Int → Option (List UInt8)) : List (Nat × Summ) := [(62, s62 octet_Put)]
def head77_1 (l : List Int) (i : Int) (c : List Int) : VM :=
  ⟨⟨77, 25, [(0, .slice (some ⟨0, 0, none⟩) l.length 1), (3, .pointer (some ⟨1, 0, none⟩)), (4, .int .i64 i)], [.code k77_10, .inLoop k77_10, .inBlock 0, .code k77_15], [], false, none⟩, [], [(0, .row false (vI .i64 l)), (1, .ty 114 [.pointer (some ⟨1, 0, none⟩), .func (.method "") ⟨[.slice (some ⟨12, 0, none⟩) c.length 1]⟩ ⟨[]⟩]), (12, .ty 5 (vI .u8 c))], 13⟩
theorem loop77_1 (octet_Put : Int → Int → Option (List UInt8)) (hS : SumsOK Try.prog (aget (sums77 octet_Put))) (l : List Int) (res : List UInt8) : ∀ fuel (st : Int × (List Int)) (o : List UInt8), iter (fun st => ipfour_row_s1 octet_Put l st.1 st.2) fuel st = some o → (o = res) →
    Leads Try.prog 77 1 (head77_1 l st.1 st.2) (fun v H _ => Res 1 (rx77 res) v H) := by
  intro fuel st o h hc
  refine iter_leads (head := fun st => head77_1 l st.1 st.2) (C := fun o => (o = res)) ?_ fuel st o h hc
  clear h hc o st fuel
  intro st o h hc
  obtain ⟨i, c⟩ := st
  replace h : ipfour_row_s1 octet_Put l i c = some o := h
  show Leads Try.prog 77 1 (head77_1 l i c) (fun v H _ => Res 1 (rx77 res) v H)
  unfold ipfour_row_s1 at h
  refine ev_ok tab_ok hS true 3000 ?_
  conv => whnf
  let t : Bool := decide ((wI .i64 (i + 1)) < (l.length : Int))
  refine br.h2 h ?_ ?_ ?_
  · rfl
  · clear h; intro hb h; conv => whnf
    replace h := oreq.elim h; obtain ⟨hb, h⟩ := h
    refine req.intro (us_req rfl (by first | rfl | (simp; done)) (by first | rfl | omega | (simp; done) | (simp; omega) | (simp at *; omega)) (of_decide_eq_true hb)) ?_
    conv => whnf
    refine pk_us ?_
    conv => whnf
    all_goals (cases h; cases hc)
    all_goals exact Res.of [] rfl nw_0 (by decide) js_0 (wr_n wr_0)
  clear h; intro hb h; conv => whnf
  replace h := oreq.elim h; obtain ⟨hb, h⟩ := h
  first | (refine req.intro hb ?_; conv => whnf) | skip
  replace h := obind.elim h; obtain ⟨e2, hy, h⟩ := h
  refine rd.I hy (by first | rfl | (rw [Nat.zero_add, Nat.mul_one]; done) | omega) ?_
  conv => whnf
  replace h := oreq.elim h; obtain ⟨hb, h⟩ := h
  first | (refine req.intro hb ?_; conv => whnf) | skip
  replace h := obind.elim h; obtain ⟨e3, hy, h⟩ := h
  refine rd.I hy (by first | rfl | (rw [Nat.zero_add, Nat.mul_one]; done) | omega) ?_
  conv => whnf
  replace h := obind.elim h; obtain ⟨p1, hy, h⟩ := h
  refine sumK.q rfl rfl (r62_eq hy) rfl rfl rfl ?_
  conv => whnf
  replace h := oreq.elim h; obtain ⟨hb, h⟩ := h
  refine req.intro (apb_req (of_decide_eq_true hb) (by first | rfl | omega | (simp; done) | (simp; omega) | (simp at *; omega)) rfl rfl (by first | rfl | omega | (simp; done) | (simp; omega) | (simp at *; omega)) (by first | rfl | exact vI_one _ _ | exact vS_one _ | exact vB_one _ | exact vT_one (by first | exact cicmp_Message_one | exact capi_Addr_one | exact coctet_Reader_one | exact cArr2_Int_one | exact cArr4_Arr2_Int_one | exact cruntime_errorAddressString_one | exact cudp_Head_one | exact cipsix_Head_one | exact cipfour_Head_one | exact capi_Tuple_one | exact ctcp_Head_one) _ | (rw [ofBytes_vI]; exact vI_one _ _) | simp [vI_one, vS_one, vB_one, vI_drop, vI_take, vS_drop, vS_take]) rfl) ?_
  conv => whnf
  let row : List Int := c ++ (bI p1)
  refine pk_apW (xs := c) (ys := bI p1) (ofBytes_vI _) (by first | (simp; done) | (simp; omega)) (by first | (simp; done) | (simp; omega)) ?_
  conv => whnf
  cases h; simp only [Sum.elim_inl, head77_1] at hc
  refine Leads.re hc [(0, 0), (1, 1), (12, 23)] rfl ?_ ?_ <;> (repeat' first | exact trivial | refine ⟨⟨_, rfl, rfl⟩, ?_⟩ | refine ⟨⟨_, _, rfl, rfl, .rowF (vI_flat _ _) id⟩, ?_⟩ | refine ⟨⟨_, _, rfl, rfl, .rowF (vS_flat _) id⟩, ?_⟩ | refine ⟨⟨_, _, rfl, rfl, .rowF (vB_flat _) id⟩, ?_⟩ | refine ⟨⟨_, _, rfl, rfl, .rowF (vT_flat (by first | exact cicmp_Message_flat | exact capi_Addr_flat | exact coctet_Reader_flat | exact cArr2_Int_flat | exact cArr4_Arr2_Int_flat | exact cruntime_errorAddressString_flat | exact cudp_Head_flat | exact cipsix_Head_flat | exact cipfour_Head_flat | exact capi_Tuple_flat | exact ctcp_Head_flat) _) id⟩, ?_⟩ | refine ⟨⟨_, _, rfl, rfl, .tyF (vI_flat _ _)⟩, ?_⟩ | refine ⟨⟨_, _, rfl, rfl, .ty rfl⟩, ?_⟩ | refine ⟨⟨_, _, rfl, rfl, .cells rfl⟩, ?_⟩ | refine ⟨⟨_, _, rfl, rfl, .row rfl id⟩, ?_⟩ | refine ⟨⟨_, _, rfl, rfl, .cr rfl⟩, ?_⟩ | refine ⟨⟨_, _, rfl, rfl, .rc rfl⟩, ?_⟩ | refine ⟨⟨_, _, rfl, rfl, .marks⟩, ?_⟩ | refine ⟨⟨_, _, rfl, rfl, .siter _ _⟩, ?_⟩ | refine ⟨⟨_, _, rfl, rfl, .loop rfl rfl rfl rfl (by repeat' first | exact trivial | refine ⟨rfl, ?_⟩) rfl rfl rfl rfl⟩, ?_⟩)
theorem leads77 (octet_Put : Int → Int → Option (List UInt8)) (hS : SumsOK Try.prog (aget (sums77 octet_Put))) (l : List Int) (res : List UInt8) (h : ipfour_rowF octet_Put l = some res) :
    Leads Try.prog 77 1 ⟨⟨77, 25, [(0, .slice (some ⟨0, 0, none⟩) l.length 1)], [.code k77_18], [], false, none⟩, [], [(0, .row false (vI .i64 l))], 1⟩ (fun v H _ => Res 1 (rx77 res) v H) := by
  unfold ipfour_rowF at h
  refine ev_ok tab_ok hS true 3000 ?_
  conv => whnf
  refine ev_ok tab_ok hS true 3000 ?_
  conv => whnf
  refine br.h2 h ?_ ?_ ?_
  · rfl
  · clear h; intro hb h; conv => whnf
    all_goals (cases h)
    all_goals exact Res.of [] rfl nw_0 (by decide) js_0 (wr_n wr_0)
  clear h; intro hb h; conv => whnf
  replace h := oreq.elim h; obtain ⟨hb, h⟩ := h
  first | (refine req.intro hb ?_; conv => whnf) | skip
  replace h := obind.elim h; obtain ⟨e, hy, h⟩ := h
  refine rd.I hy (by first | rfl | (rw [Nat.zero_add, Nat.mul_one]; done) | omega) ?_
  conv => whnf
  replace h := oreq.elim h; obtain ⟨hb, h⟩ := h
  first | (refine req.intro hb ?_; conv => whnf) | skip
  replace h := obind.elim h; obtain ⟨e1, hy, h⟩ := h
  refine rd.I hy (by first | rfl | (rw [Nat.zero_add, Nat.mul_one]; done) | omega) ?_
  conv => whnf
  replace h := obind.elim h; obtain ⟨p, hy, h⟩ := h
  refine sumK.q rfl rfl (r62_eq hy) rfl rfl rfl ?_
  conv => whnf
  replace h := oreq.elim h; obtain ⟨hb, h⟩ := h
  refine req.intro (ap0b_req (of_decide_eq_true hb) (by first | rfl | omega | (simp; done) | (simp; omega) | (simp at *; omega)) rfl rfl) ?_
  conv => whnf
  refine pk_ap0I (ys := bI p) (ofBytes_vI _) (by first | rfl | (simp; done) | (simp; omega)) ?_
  conv => whnf
  have hl := loop77_1 octet_Put hS _ res _ _ _ h rfl; simp only [head77_1] at hl
  refine Leads.re hl [(0, 0), (1, 1), (12, 12)] rfl ?_ ?_ <;> (repeat' first | exact trivial | refine ⟨⟨_, rfl, rfl⟩, ?_⟩ | refine ⟨⟨_, _, rfl, rfl, .rowF (vI_flat _ _) id⟩, ?_⟩ | refine ⟨⟨_, _, rfl, rfl, .rowF (vS_flat _) id⟩, ?_⟩ | refine ⟨⟨_, _, rfl, rfl, .rowF (vB_flat _) id⟩, ?_⟩ | refine ⟨⟨_, _, rfl, rfl, .rowF (vT_flat (by first | exact cicmp_Message_flat | exact capi_Addr_flat | exact coctet_Reader_flat | exact cArr2_Int_flat | exact cArr4_Arr2_Int_flat | exact cruntime_errorAddressString_flat | exact cudp_Head_flat | exact cipsix_Head_flat | exact cipfour_Head_flat | exact capi_Tuple_flat | exact ctcp_Head_flat) _) id⟩, ?_⟩ | refine ⟨⟨_, _, rfl, rfl, .tyF (vI_flat _ _)⟩, ?_⟩ | refine ⟨⟨_, _, rfl, rfl, .ty rfl⟩, ?_⟩ | refine ⟨⟨_, _, rfl, rfl, .cells rfl⟩, ?_⟩ | refine ⟨⟨_, _, rfl, rfl, .row rfl id⟩, ?_⟩ | refine ⟨⟨_, _, rfl, rfl, .cr rfl⟩, ?_⟩ | refine ⟨⟨_, _, rfl, rfl, .rc rfl⟩, ?_⟩ | refine ⟨⟨_, _, rfl, rfl, .marks⟩, ?_⟩ | refine ⟨⟨_, _, rfl, rfl, .siter _ _⟩, ?_⟩ | refine ⟨⟨_, _, rfl, rfl, .loop rfl rfl rfl rfl (by repeat' first | exact trivial | refine ⟨rfl, ?_⟩) rfl rfl rfl rfl⟩, ?_⟩)
theorem ok77 (octet_Put : Int → Int → Option (List UInt8)) (hS : SumsOK Try.prog (aget (sums77 octet_Put))) : SumOK Try.prog 77 (s77 (ipfour_rowF octet_Put)) := by
  refine SumOK.of_leads tab_ok (fun ar os r ha hr => ?_) ⟨Try.f77, rfl, by decide, rfl⟩
  replace hr : r77 (ipfour_rowF octet_Put) ar (conts os) = some r := hr
  unfold r77 at hr
  generalize hc : conts os = C at hr
  have hq := dSl.elim hr; clear hr; obtain ⟨c0, l1, C, y0, rfl, rfl, e0, hr⟩ := hq; obtain rfl := unI_eq e0
  replace hr := dFin hr; obtain ⟨rfl, rfl, x, h, rfl⟩ := hr
  obtain ⟨os, rfl, ha, hc⟩ := kinds_some ha hc
  obtain rfl := kinds_nil hc
  exact ⟨_, rfl, leads77 octet_Put hS _ x h⟩
def ipfour_row : (List Int) → Option (List UInt8) := ipfour_rowF octet_Put
theorem lift77 : SumOK Try.prog 77 (s77 ipfour_row) := ok77 octet_Put (SumsOK.of_tab ⟨lift62, trivial⟩)
def ipfour_PseudoF (addr_Put : api_Addr → Option (List UInt8)) (addr_Right : api_Addr → Option Bool) (ipfour_row : (List Int) → Option (List UInt8)) (src : api_Addr) (dst : api_Addr) (proto : Int) (n : Int) : Option (List UInt8) :=
  (addr_Right src).bind fun xr =>
  cond (!xr)
    (
    some ([]))
    (
    (addr_Right dst).bind fun xr1 =>
    cond (!xr1)
      (
      some ([]))
      (
      cond (!(src.V6 == dst.V6))
        (
        some ([]))
        (
        (addr_Put src).bind fun p =>
        (addr_Put dst).bind fun p1 =>
        oreq (decide (p.length + p1.length < 2 ^ 63)) <|
        cond (src.V6)
          (
          (ipfour_row [n, 4, 0, 3, proto, 1]).bind fun xr2 =>
          oreq (decide ((p ++ p1).length + xr2.length < 2 ^ 63)) <|
          some ((p ++ p1) ++ xr2))
          (
          (ipfour_row [0, 1, proto, 1, n, 2]).bind fun xr3 =>
          oreq (decide ((p ++ p1).length + xr3.length < 2 ^ 63)) <|
          some ((p ++ p1) ++ xr3)))))
def rx27 (x : List UInt8) : SRes := ⟨.string ⟨⟨x⟩⟩, [], []⟩
def r27 (g : api_Addr → api_Addr → Int → Int → Option (List UInt8)) : Dec := dV uvapi_Addr fun (y0 : api_Addr) => dV uvapi_Addr fun (y1 : api_Addr) => dV (asI .i64) fun (y2 : Int) => dV (asI .i64) fun (y3 : Int) => dEnd (ofG (g y0 y1 y2 y3) rx27)
theorem r27_c {g : api_Addr → api_Addr → Int → Int → Option (List UInt8)} {y0 : api_Addr} {y1 : api_Addr} {y2 : Int} {y3 : Int} {x : List UInt8} (hx : g y0 y1 y2 y3 = some x) : r27 g [.agg ⟨[.bool y0.V6, .int .u64 y0.Hi, .int .u64 y0.Lo]⟩, .agg ⟨[.bool y1.V6, .int .u64 y1.Hi, .int .u64 y1.Lo]⟩, .int .i64 y2, .int .i64 y3] [] = some (rx27 x) := (dV_eq (uvapi_Addr_c _)).trans ((dV_eq (uvapi_Addr_c _)).trans ((dV_eq (asI_c _)).trans ((dV_eq (asI_c _)).trans (ofG_eq hx))))
def s27 (g : api_Addr → api_Addr → Int → Int → Option (List UInt8)) : Summ := ⟨[.v, .v, .v, .v], r27 g⟩
theorem r27_eq {g : api_Addr → api_Addr → Int → Int → Option (List UInt8)} {y0 : api_Addr} {y1 : api_Addr} {y2 : Int} {y3 : Int} {x : List UInt8} (hx : g y0 y1 y2 y3 = some x) : (s27 g).run [.agg ⟨[.bool y0.V6, .int .u64 y0.Hi, .int .u64 y0.Lo]⟩, .agg ⟨[.bool y1.V6, .int .u64 y1.Hi, .int .u64 y1.Lo]⟩, .int .i64 y2, .int .i64 y3] [] = some (rx27 x) := r27_c hx
abbrev sums27 (addr_Put : api_Addr → Option (List UInt8)) (addr_Right : api_Addr → Option Bool) (ipfour_row : (List Int) → Option (List UInt8)) : List (Nat × Summ) := [(78, s78 addr_Put), (85, s85 addr_Right), (77, s77 ipfour_row)]
theorem leads27 (addr_Put : api_Addr → Option (List UInt8)) (addr_Right : api_Addr → Option Bool) (ipfour_row : (List Int) → Option (List UInt8)) (hS : SumsOK Try.prog (aget (sums27 addr_Put addr_Right ipfour_row))) (src : api_Addr) (dst : api_Addr) (proto : Int) (n : Int) (res : List UInt8) (h : ipfour_PseudoF addr_Put addr_Right ipfour_row src dst proto n = some res) :
    Leads Try.prog 27 0 ⟨⟨27, 44, [(0, .agg ⟨[.bool src.V6, .int .u64 src.Hi, .int .u64 src.Lo]⟩), (1, .agg ⟨[.bool dst.V6, .int .u64 dst.Hi, .int .u64 dst.Lo]⟩), (2, .int .i64 proto), (3, .int .i64 n)], [.code k27_17], [], false, none⟩, [], [], 0⟩ (fun v H _ => Res 0 (rx27 res) v H) := by
  unfold ipfour_PseudoF at h
  refine ev_ok tab_ok hS true 3000 ?_
  conv => whnf
  replace h := obind.elim h; obtain ⟨xr, hy, h⟩ := h
  refine sumK.q rfl rfl (r85_eq hy) rfl rfl rfl ?_
  conv => whnf
  refine br.h h ?_ ?_ ?_
  · rfl
  · clear h; intro hb h; conv => whnf
    all_goals (cases h; exact Res.z rfl rfl rfl)
  clear h; intro hb h; conv => whnf
  replace h := obind.elim h; obtain ⟨xr1, hy, h⟩ := h
  refine sumK.q rfl rfl (r85_eq hy) rfl rfl rfl ?_
  conv => whnf
  refine br.h h ?_ ?_ ?_
  · rfl
  · clear h; intro hb h; conv => whnf
    all_goals (cases h; exact Res.z rfl rfl rfl)
  clear h; intro hb h; conv => whnf
  refine br.h h ?_ ?_ ?_
  · rfl
  · clear h; intro hb h; conv => whnf
    all_goals (cases h; exact Res.z rfl rfl rfl)
  clear h; intro hb h; conv => whnf
  replace h := obind.elim h; obtain ⟨p, hy, h⟩ := h
  refine sumK.q rfl rfl (r78_eq hy) rfl rfl rfl ?_
  conv => whnf
  replace h := obind.elim h; obtain ⟨p1, hy, h⟩ := h
  refine sumK.q rfl rfl (r78_eq hy) rfl rfl rfl ?_
  conv => whnf
  replace h := oreq.elim h; obtain ⟨hb, h⟩ := h
  first | (refine req.intro hb ?_; conv => whnf) | skip
  refine br.h h ?_ ?_ ?_
  · rfl
  · clear h; intro hb h; conv => whnf
    replace h := obind.elim h; obtain ⟨xr2, hy, h⟩ := h
    refine sumK.introF [] (sumRun_of (aqs := [.slice (some ⟨0, 0, none⟩) ([n, 4, 0, 3, proto, 1] : List Int).length 1]) (ws := [.win 5 0 (6 * 1) false]) (n := 0) (m := 0) (t' := 6) (ra_cons (by first | rfl | exact ra_allI rfl rfl (by first | rfl | omega) (by first | rfl | (simp; done)) | exact ra_slI rfl rfl (by first | rfl | omega) (by first | rfl | omega) (by first | omega | (simp at *; omega))) rfl ra_nil) rfl (by rfl) (r77_eq hy) rfl rfl rfl rfl (wb_skip rfl wb_nil) an_nil rfl) ?_
    conv => whnf
    replace h := oreq.elim h; obtain ⟨hb, h⟩ := h
    first | (refine req.intro hb ?_; conv => whnf) | skip
    all_goals (cases h; exact Res.z rfl rfl rfl)
  clear h; intro hb h; conv => whnf
  replace h := obind.elim h; obtain ⟨xr3, hy, h⟩ := h
  refine sumK.introF [] (sumRun_of (aqs := [.slice (some ⟨0, 0, none⟩) ([0, 1, proto, 1, n, 2] : List Int).length 1]) (ws := [.win 5 0 (6 * 1) false]) (n := 0) (m := 0) (t' := 6) (ra_cons (by first | rfl | exact ra_allI rfl rfl (by first | rfl | omega) (by first | rfl | (simp; done)) | exact ra_slI rfl rfl (by first | rfl | omega) (by first | rfl | omega) (by first | omega | (simp at *; omega))) rfl ra_nil) rfl (by rfl) (r77_eq hy) rfl rfl rfl rfl (wb_skip rfl wb_nil) an_nil rfl) ?_
  conv => whnf
  replace h := oreq.elim h; obtain ⟨hb, h⟩ := h
  first | (refine req.intro hb ?_; conv => whnf) | skip
  all_goals (cases h; exact Res.z rfl rfl rfl)
theorem ok27 (addr_Put : api_Addr → Option (List UInt8)) (addr_Right : api_Addr → Option Bool) (ipfour_row : (List Int) → Option (List UInt8)) (hS : SumsOK Try.prog (aget (sums27 addr_Put addr_Right ipfour_row))) : SumOK Try.prog 27 (s27 (ipfour_PseudoF addr_Put addr_Right ipfour_row)) := by
  refine SumOK.of_leads tab_ok (fun ar os r ha hr => ?_) ⟨Try.f27, rfl, by decide, rfl⟩
  replace hr : r27 (ipfour_PseudoF addr_Put addr_Right ipfour_row) ar (conts os) = some r := hr
  unfold r27 at hr
  generalize hc : conts os = C at hr
  replace hr := dV.elim hr; obtain ⟨v0, l1, y0, rfl, e0, hr⟩ := hr; obtain rfl := uvapi_Addr_eq _ _ e0
  replace hr := dV.elim hr; obtain ⟨v1, l2, y1, rfl, e1, hr⟩ := hr; obtain rfl := uvapi_Addr_eq _ _ e1
  replace hr := dV.elim hr; obtain ⟨v2, l3, y2, rfl, e2, hr⟩ := hr; obtain rfl := asI_eq _ _ _ e2
  replace hr := dV.elim hr; obtain ⟨v3, l4, y3, rfl, e3, hr⟩ := hr; obtain rfl := asI_eq _ _ _ e3
  replace hr := dFin hr; obtain ⟨rfl, rfl, x, h, rfl⟩ := hr
  obtain rfl := kinds_nil hc
  exact ⟨_, rfl, leads27 addr_Put addr_Right ipfour_row hS _ _ _ _ x h⟩
def ipfour_Pseudo : api_Addr → api_Addr → Int → Int → Option (List UInt8) := ipfour_PseudoF addr_Put addr_Right ipfour_row
theorem lift27 : SumOK Try.prog 27 (s27 ipfour_Pseudo) := ok27 addr_Put addr_Right ipfour_row (SumsOK.of_tab ⟨lift78, lift85, lift77, trivial⟩)
def R05_numF (R02_Put : Int → Int → Option (List UInt8)) (n : Int) (k : Int) : Option (List UInt8) :=
  (R02_Put (wI .u64 n) k).bind fun p =>
  some (p)
def rx80 (x : List UInt8) : SRes := ⟨.string ⟨⟨x⟩⟩, [], []⟩
def r80 (g : Int → Int → Option (List UInt8)) : Dec := dV (asI .i64) fun (y0 : Int) => dV (asI .i64) fun (y1 : Int) => dEnd (ofG (g y0 y1) rx80)
theorem r80_c {g : Int → Int → Option (List UInt8)} {y0 : Int} {y1 : Int} {x : List UInt8} (hx : g y0 y1 = some x) : r80 g [.int .i64 y0, .int .i64 y1] [] = some (rx80 x) := (dV_eq (asI_c _)).trans ((dV_eq (asI_c _)).trans (ofG_eq hx))
def s80 (g : Int → Int → Option (List UInt8)) : Summ := ⟨[.v, .v], r80 g⟩
theorem r80_eq {g : Int → Int → Option (List UInt8)} {y0 : Int} {y1 : Int} {x : List UInt8} (hx : g y0 y1 = some x) : (s80 g).run [.int .i64 y0, .int .i64 y1] [] = some (rx80 x) := r80_c hx
abbrev sums80 (R02_Put : Int → Int → Option (List UInt8)) : List (Nat × Summ) := [(67, s67 R02_Put)]
theorem leads80 (R02_Put : Int → Int → Option (List UInt8)) (hS : SumsOK Try.prog (aget (sums80 R02_Put))) (n : Int) (k : Int) (res : List UInt8) (h : R05_numF R02_Put n k = some res) :
    Leads Try.prog 80 0 ⟨⟨80, 9, [(0, .int .i64 n), (1, .int .i64 k)], [.code k80_3], [], false, none⟩, [], [], 0⟩ (fun v H _ => Res 0 (rx80 res) v H) := by
  unfold R05_numF at h
  refine ev_ok tab_ok hS true 3000 ?_
  conv => whnf
  replace h := obind.elim h; obtain ⟨p, hy, h⟩ := h
  refine sumK.q rfl rfl (r67_eq hy) rfl rfl rfl ?_
  conv => whnf
  all_goals (cases h; exact Res.z rfl rfl rfl)
theorem ok80 (R02_Put : Int → Int → Option (List UInt8)) (hS : SumsOK Try.prog (aget (sums80 R02_Put))) : SumOK Try.prog 80 (s80 (R05_numF R02_Put)) := by
  refine SumOK.of_leads tab_ok (fun ar os r ha hr => ?_) ⟨Try.f80, rfl, by decide, rfl⟩
  replace hr : r80 (R05_numF R02_Put) ar (conts os) = some r := hr
  unfold r80 at hr
  generalize hc : conts os = C at hr
  replace hr := dV.elim hr; obtain ⟨v0, l1, y0, rfl, e0, hr⟩ := hr; obtain rfl := asI_eq _ _ _ e0
  replace hr := dV.elim hr; obtain ⟨v1, l2, y1, rfl, e1, hr⟩ := hr; obtain rfl := asI_eq _ _ _ e1
  replace hr := dFin hr; obtain ⟨rfl, rfl, x, h, rfl⟩ := hr
  obtain rfl := kinds_nil hc
  exact ⟨_, rfl, leads80 R02_Put hS _ _ x h⟩
def R05_num : Int → Int → Option (List UInt8) := R05_numF R02_Put
theorem lift80 : SumOK Try.prog 80 (s80 R05_num) := ok80 R02_Put (SumsOK.of_tab ⟨lift67, trivial⟩)
def R05_PseudoF (R04_Put : api_Addr → Option (List UInt8)) (R04_Right : api_Addr → Option Bool) (R05_num : Int → Int → Option (List UInt8)) (src : api_Addr) (dst : api_Addr) (proto : Int) (n : Int) : Option (List UInt8) :=
  (R04_Right src).bind fun xr =>
  cond (!xr)
    (
    some ([]))
    (
    (R04_Right dst).bind fun xr1 =>
    cond (!xr1)
      (
      some ([]))
      (
      cond (!(src.V6 == dst.V6))
        (
        some ([]))
        (
        cond (src.V6)
          (
          (R04_Put src).bind fun p =>
          (R04_Put dst).bind fun p1 =>
          oreq (decide (p.length + p1.length < 2 ^ 63)) <|
          (R05_num n 4).bind fun n1 =>
          oreq (decide ((p ++ p1).length + n1.length < 2 ^ 63)) <|
          (R05_num 0 3).bind fun n2 =>
          oreq (decide (((p ++ p1) ++ n1).length + n2.length < 2 ^ 63)) <|
          (R05_num proto 1).bind fun n3 =>
          oreq (decide ((((p ++ p1) ++ n1) ++ n2).length + n3.length < 2 ^ 63)) <|
          some ((((p ++ p1) ++ n1) ++ n2) ++ n3))
          (
          (R04_Put src).bind fun p2 =>
          (R04_Put dst).bind fun p3 =>
          oreq (decide (p2.length + p3.length < 2 ^ 63)) <|
          (R05_num 0 1).bind fun n4 =>
          oreq (decide ((p2 ++ p3).length + n4.length < 2 ^ 63)) <|
          (R05_num proto 1).bind fun n5 =>
          oreq (decide (((p2 ++ p3) ++ n4).length + n5.length < 2 ^ 63)) <|
          (R05_num n 2).bind fun n6 =>
          oreq (decide ((((p2 ++ p3) ++ n4) ++ n5).length + n6.length < 2 ^ 63)) <|
          some ((((p2 ++ p3) ++ n4) ++ n5) ++ n6)))))
def rx28 (x : List UInt8) : SRes := ⟨.string ⟨⟨x⟩⟩, [], []⟩
def r28 (g : api_Addr → api_Addr → Int → Int → Option (List UInt8)) : Dec := dV uvapi_Addr fun (y0 : api_Addr) => dV uvapi_Addr fun (y1 : api_Addr) => dV (asI .i64) fun (y2 : Int) => dV (asI .i64) fun (y3 : Int) => dEnd (ofG (g y0 y1 y2 y3) rx28)
theorem r28_c {g : api_Addr → api_Addr → Int → Int → Option (List UInt8)} {y0 : api_Addr} {y1 : api_Addr} {y2 : Int} {y3 : Int} {x : List UInt8} (hx : g y0 y1 y2 y3 = some x) : r28 g [.agg ⟨[.bool y0.V6, .int .u64 y0.Hi, .int .u64 y0.Lo]⟩, .agg ⟨[.bool y1.V6, .int .u64 y1.Hi, .int .u64 y1.Lo]⟩, .int .i64 y2, .int .i64 y3] [] = some (rx28 x) := (dV_eq (uvapi_Addr_c _)).trans ((dV_eq (uvapi_Addr_c _)).trans ((dV_eq (asI_c _)).trans ((dV_eq (asI_c _)).trans (ofG_eq hx))))
def s28 (g : api_Addr → api_Addr → Int → Int → Option (List UInt8)) : Summ := ⟨[.v, .v, .v, .v], r28 g⟩
theorem r28_eq {g : api_Addr → api_Addr → Int → Int → Option (List UInt8)} {y0 : api_Addr} {y1 : api_Addr} {y2 : Int} {y3 : Int} {x : List UInt8} (hx : g y0 y1 y2 y3 = some x) : (s28 g).run [.agg ⟨[.bool y0.V6, .int .u64 y0.Hi, .int .u64 y0.Lo]⟩, .agg ⟨[.bool y1.V6, .int .u64 y1.Hi, .int .u64 y1.Lo]⟩, .int .i64 y2, .int .i64 y3] [] = some (rx28 x) := r28_c hx
abbrev sums28 (R04_Put : api_Addr → Option (List UInt8)) (R04_Right : api_Addr → Option Bool) (R05_num : Int → Int → Option (List UInt8)) : List (Nat × Summ) := [(81, s81 R04_Put), (86, s86 R04_Right), (80, s80 R05_num)]
theorem leads28 (R04_Put : api_Addr → Option (List UInt8)) (R04_Right : api_Addr → Option Bool) (R05_num : Int → Int → Option (List UInt8)) (hS : SumsOK Try.prog (aget (sums28 R04_Put R04_Right R05_num))) (src : api_Addr) (dst : api_Addr) (proto : Int) (n : Int) (res : List UInt8) (h : R05_PseudoF R04_Put R04_Right R05_num src dst proto n = some res) :
    Leads Try.prog 28 0 ⟨⟨28, 52, [(0, .agg ⟨[.bool src.V6, .int .u64 src.Hi, .int .u64 src.Lo]⟩), (1, .agg ⟨[.bool dst.V6, .int .u64 dst.Hi, .int .u64 dst.Lo]⟩), (2, .int .i64 proto), (3, .int .i64 n)], [.code k28_15], [], false, none⟩, [], [], 0⟩ (fun v H _ => Res 0 (rx28 res) v H) := by
  unfold R05_PseudoF at h
  refine ev_ok tab_ok hS true 3000 ?_
  conv => whnf
  replace h := obind.elim h; obtain ⟨xr, hy, h⟩ := h
  refine sumK.q rfl rfl (r86_eq hy) rfl rfl rfl ?_
  conv => whnf
  refine br.h h ?_ ?_ ?_
  · rfl
  · clear h; intro hb h; conv => whnf
    all_goals (cases h; exact Res.z rfl rfl rfl)
  clear h; intro hb h; conv => whnf
  replace h := obind.elim h; obtain ⟨xr1, hy, h⟩ := h
  refine sumK.q rfl rfl (r86_eq hy) rfl rfl rfl ?_
  conv => whnf
  refine br.h h ?_ ?_ ?_
  · rfl
  · clear h; intro hb h; conv => whnf
    all_goals (cases h; exact Res.z rfl rfl rfl)
  clear h; intro hb h; conv => whnf
  refine br.h h ?_ ?_ ?_
  · rfl
  · clear h; intro hb h; conv => whnf
    all_goals (cases h; exact Res.z rfl rfl rfl)
  clear h; intro hb h; conv => whnf
  refine br.h h ?_ ?_ ?_
  · rfl
  · clear h; intro hb h; conv => whnf
    replace h := obind.elim h; obtain ⟨p, hy, h⟩ := h
    refine sumK.q rfl rfl (r81_eq hy) rfl rfl rfl ?_
    conv => whnf
    replace h := obind.elim h; obtain ⟨p1, hy, h⟩ := h
    refine sumK.q rfl rfl (r81_eq hy) rfl rfl rfl ?_
    conv => whnf
    replace h := oreq.elim h; obtain ⟨hb, h⟩ := h
    first | (refine req.intro hb ?_; conv => whnf) | skip
    replace h := obind.elim h; obtain ⟨n1, hy, h⟩ := h
    refine sumK.q rfl rfl (r80_eq hy) rfl rfl rfl ?_
    conv => whnf
    replace h := oreq.elim h; obtain ⟨hb, h⟩ := h
    first | (refine req.intro hb ?_; conv => whnf) | skip
    replace h := obind.elim h; obtain ⟨n2, hy, h⟩ := h
    refine sumK.q rfl rfl (r80_eq hy) rfl rfl rfl ?_
    conv => whnf
    replace h := oreq.elim h; obtain ⟨hb, h⟩ := h
    first | (refine req.intro hb ?_; conv => whnf) | skip
    replace h := obind.elim h; obtain ⟨n3, hy, h⟩ := h
    refine sumK.q rfl rfl (r80_eq hy) rfl rfl rfl ?_
    conv => whnf
    replace h := oreq.elim h; obtain ⟨hb, h⟩ := h
    first | (refine req.intro hb ?_; conv => whnf) | skip
    all_goals (cases h; exact Res.z rfl rfl rfl)
  clear h; intro hb h; conv => whnf
  replace h := obind.elim h; obtain ⟨p2, hy, h⟩ := h
  refine sumK.q rfl rfl (r81_eq hy) rfl rfl rfl ?_
  conv => whnf
  replace h := obind.elim h; obtain ⟨p3, hy, h⟩ := h
  refine sumK.q rfl rfl (r81_eq hy) rfl rfl rfl ?_
  conv => whnf
  replace h := oreq.elim h; obtain ⟨hb, h⟩ := h
  first | (refine req.intro hb ?_; conv => whnf) | skip
  replace h := obind.elim h; obtain ⟨n4, hy, h⟩ := h
  refine sumK.q rfl rfl (r80_eq hy) rfl rfl rfl ?_
  conv => whnf
  replace h := oreq.elim h; obtain ⟨hb, h⟩ := h
  first | (refine req.intro hb ?_; conv => whnf) | skip
  replace h := obind.elim h; obtain ⟨n5, hy, h⟩ := h
  refine sumK.q rfl rfl (r80_eq hy) rfl rfl rfl ?_
  conv => whnf
  replace h := oreq.elim h; obtain ⟨hb, h⟩ := h
  first | (refine req.intro hb ?_; conv => whnf) | skip
  replace h := obind.elim h; obtain ⟨n6, hy, h⟩ := h
  refine sumK.q rfl rfl (r80_eq hy) rfl rfl rfl ?_
  conv => whnf
  replace h := oreq.elim h; obtain ⟨hb, h⟩ := h
  first | (refine req.intro hb ?_; conv => whnf) | skip
  all_goals (cases h; exact Res.z rfl rfl rfl)
theorem ok28 (R04_Put : api_Addr → Option (List UInt8)) (R04_Right : api_Addr → Option Bool) (R05_num : Int → Int → Option (List UInt8)) (hS : SumsOK Try.prog (aget (sums28 R04_Put R04_Right R05_num))) : SumOK Try.prog 28 (s28 (R05_PseudoF R04_Put R04_Right R05_num)) := by
  refine SumOK.of_leads tab_ok (fun ar os r ha hr => ?_) ⟨Try.f28, rfl, by decide, rfl⟩
  replace hr : r28 (R05_PseudoF R04_Put R04_Right R05_num) ar (conts os) = some r := hr
  unfold r28 at hr
  generalize hc : conts os = C at hr
  replace hr := dV.elim hr; obtain ⟨v0, l1, y0, rfl, e0, hr⟩ := hr; obtain rfl := uvapi_Addr_eq _ _ e0
  replace hr := dV.elim hr; obtain ⟨v1, l2, y1, rfl, e1, hr⟩ := hr; obtain rfl := uvapi_Addr_eq _ _ e1
  replace hr := dV.elim hr; obtain ⟨v2, l3, y2, rfl, e2, hr⟩ := hr; obtain rfl := asI_eq _ _ _ e2
  replace hr := dV.elim hr; obtain ⟨v3, l4, y3, rfl, e3, hr⟩ := hr; obtain rfl := asI_eq _ _ _ e3
  replace hr := dFin hr; obtain ⟨rfl, rfl, x, h, rfl⟩ := hr
  obtain rfl := kinds_nil hc
  exact ⟨_, rfl, leads28 R04_Put R04_Right R05_num hS _ _ _ _ x h⟩
def R05_Pseudo : api_Addr → api_Addr → Int → Int → Option (List UInt8) := R05_PseudoF R04_Put R04_Right R05_num
theorem lift28 : SumOK Try.prog 28 (s28 R05_Pseudo) := ok28 R04_Put R04_Right R05_num (SumsOK.of_tab ⟨lift81, lift86, lift80, trivial⟩)
def octet_Reader_BadF (ra0 : octet_Reader) : Option (Bool × octet_Reader) :=
  cond (!ra0.made)
    (
    some ((true, ra0)))
    (
    some ((ra0.bad, ra0)))
def rx72 (x : Bool × octet_Reader) : SRes := ⟨.bool x.1, [], [some [.string ⟨⟨x.2.s⟩⟩, .bool x.2.made, .bool x.2.bad]]⟩
def r72 (g : octet_Reader → Option (Bool × octet_Reader)) : Dec := dPt 0 unoctet_Reader fun (y0 : octet_Reader) => dEnd (ofG (g y0) rx72)
theorem r72_c {g : octet_Reader → Option (Bool × octet_Reader)} {y0 : octet_Reader} {x : Bool × octet_Reader} (hx : g y0 = some x) : r72 g [.pointer (some ⟨0, 0, none⟩)] [some [.string ⟨⟨y0.s⟩⟩, .bool y0.made, .bool y0.bad]] = some (rx72 x) := (dPt_eq (unoctet_Reader_c _)).trans (ofG_eq hx)
def s72 (g : octet_Reader → Option (Bool × octet_Reader)) : Summ := ⟨[.pt 3], r72 g⟩
theorem r72_eq {g : octet_Reader → Option (Bool × octet_Reader)} {y0 : octet_Reader} {x : Bool × octet_Reader} (hx : g y0 = some x) : (s72 g).run [.pointer (some ⟨0, 0, none⟩)] [some [.string ⟨⟨y0.s⟩⟩, .bool y0.made, .bool y0.bad]] = some (rx72 x) := r72_c hx
abbrev sums72 : List (Nat × Summ) := []
theorem leads72 (hS : SumsOK Try.prog (aget (sums72))) (ra0 : octet_Reader) (res : Bool × octet_Reader) (h : octet_Reader_BadF ra0 = some res) :
    Leads Try.prog 72 1 ⟨⟨72, 18, [(0, .pointer (some ⟨0, 0, none⟩))], [.code k72_3], [], false, none⟩, [], [(0, .cells [.string ⟨⟨ra0.s⟩⟩, .bool ra0.made, .bool ra0.bad])], 1⟩ (fun v H _ => Res 1 (rx72 res) v H) := by
  unfold octet_Reader_BadF at h
  refine ev_ok tab_ok hS true 3000 ?_
  conv => whnf
  refine br.h h ?_ ?_ ?_
  · rfl
  · clear h; intro hb h; conv => whnf
    all_goals (cases h)
    all_goals exact Res.of [] rfl nw_0 (by decide) js_0 (wr_s (rfl) (hs_cells rfl) wr_0)
  clear h; intro hb h; conv => whnf
  all_goals (cases h)
  all_goals exact Res.of [] rfl nw_0 (by decide) js_0 (wr_s (rfl) (hs_cells rfl) wr_0)
theorem ok72 (hS : SumsOK Try.prog (aget (sums72))) : SumOK Try.prog 72 (s72 (octet_Reader_BadF)) := by
  refine SumOK.of_leads tab_ok (fun ar os r ha hr => ?_) ⟨Try.f72, rfl, by decide, rfl⟩
  replace hr : r72 (octet_Reader_BadF) ar (conts os) = some r := hr
  unfold r72 at hr
  generalize hc : conts os = C at hr
  have hq := dPt.elim hr; clear hr; obtain ⟨c0, l1, C, y0, rfl, rfl, e0, hr⟩ := hq; obtain rfl := unoctet_Reader_eq _ _ e0
  replace hr := dFin hr; obtain ⟨rfl, rfl, x, h, rfl⟩ := hr
  obtain ⟨os, rfl, ha, hc⟩ := kinds_some ha hc
  obtain rfl := kinds_nil hc
  exact ⟨_, rfl, leads72 hS _ x h⟩
def octet_Reader_Bad : octet_Reader → Option (Bool × octet_Reader) := octet_Reader_BadF
theorem lift72 : SumOK Try.prog 72 (s72 octet_Reader_Bad) := ok72 (SumsOK.of_tab trivial)
def octet_Reader_TextF (octet_Reader_Bad : octet_Reader → Option (Bool × octet_Reader)) (ra0 : octet_Reader) (n : Int) : Option ((List UInt8) × octet_Reader) :=
  (octet_Reader_Bad ra0).bind fun b =>
  cond (b.1)
    (
    some (([], b.2)))
    (
    cond (decide (n < 0))
      (
      some (([], octet_Reader.mk b.2.s b.2.made true)))
      (
      cond (decide (n > (b.2.s.length : Int)))
        (
        some (([], octet_Reader.mk b.2.s b.2.made true)))
        (
        oreq (decide ((0 : Int) ≤ n ∧ n ≤ (b.2.s.length : Int))) <|
        oreq (decide ((0 : Int) ≤ n ∧ n ≤ (b.2.s.length : Int))) <|
        let t := (b.2.s.drop n.toNat).take (b.2.s.length - n.toNat)
        some ((b.2.s.take n.toNat, octet_Reader.mk t b.2.made b.2.bad)))))
def rx83 (x : (List UInt8) × octet_Reader) : SRes := ⟨.string ⟨⟨x.1⟩⟩, [], [some [.string ⟨⟨x.2.s⟩⟩, .bool x.2.made, .bool x.2.bad]]⟩
def r83 (g : octet_Reader → Int → Option ((List UInt8) × octet_Reader)) : Dec := dPt 0 unoctet_Reader fun (y0 : octet_Reader) => dV (asI .i64) fun (y1 : Int) => dEnd (ofG (g y0 y1) rx83)
theorem r83_c {g : octet_Reader → Int → Option ((List UInt8) × octet_Reader)} {y0 : octet_Reader} {y1 : Int} {x : (List UInt8) × octet_Reader} (hx : g y0 y1 = some x) : r83 g [.pointer (some ⟨0, 0, none⟩), .int .i64 y1] [some [.string ⟨⟨y0.s⟩⟩, .bool y0.made, .bool y0.bad]] = some (rx83 x) := (dPt_eq (unoctet_Reader_c _)).trans ((dV_eq (asI_c _)).trans (ofG_eq hx))
def s83 (g : octet_Reader → Int → Option ((List UInt8) × octet_Reader)) : Summ := ⟨[.pt 3, .v], r83 g⟩
theorem r83_eq {g : octet_Reader → Int → Option ((List UInt8) × octet_Reader)} {y0 : octet_Reader} {y1 : Int} {x : (List UInt8) × octet_Reader} (hx : g y0 y1 = some x) : (s83 g).run [.pointer (some ⟨0, 0, none⟩), .int .i64 y1] [some [.string ⟨⟨y0.s⟩⟩, .bool y0.made, .bool y0.bad]] = some (rx83 x) := r83_c hx
abbrev sums83 (octet_Reader_Bad : octet_Reader → Option (Bool × octet_Reader)) : List (Nat × Summ) := [(72, s72 octet_Reader_Bad)]
theorem leads83 (octet_Reader_Bad : octet_Reader → Option (Bool × octet_Reader)) (hS : SumsOK Try.prog (aget (sums83 octet_Reader_Bad))) (ra0 : octet_Reader) (n : Int) (res : (List UInt8) × octet_Reader) (h : octet_Reader_TextF octet_Reader_Bad ra0 n = some res) :
    Leads Try.prog 83 1 ⟨⟨83, 38, [(0, .pointer (some ⟨0, 0, none⟩)), (1, .int .i64 n)], [.code k83_21], [], false, none⟩, [], [(0, .cells [.string ⟨⟨ra0.s⟩⟩, .bool ra0.made, .bool ra0.bad])], 1⟩ (fun v H _ => Res 1 (rx83 res) v H) := by
  unfold octet_Reader_TextF at h
  refine ev_ok tab_ok hS true 3000 ?_
  conv => whnf
  replace h := obind.elim h; obtain ⟨b, hy, h⟩ := h
  refine sumK.introF [0] (sumRun_of (aqs := [.pointer (some ⟨0, 0, none⟩)]) (ws := [.win 0 0 3 true]) (n := 0) (m := 0) (t' := 1) (ra_cons rfl rfl ra_nil) rfl (by rfl) (r72_eq hy) rfl rfl rfl rfl (wb_win rfl rfl rfl ⟨rfl, Nat.le_of_ble_eq_true rfl⟩ rfl rfl wb_nil) an_nil rfl) ?_
  conv => whnf
  refine br.h h ?_ ?_ ?_
  · rfl
  · clear h; intro hb h; conv => whnf
    all_goals (cases h)
    all_goals exact Res.of [] rfl nw_0 (by decide) js_0 (wr_s (rfl) (hs_cells rfl) wr_0)
  clear h; intro hb h; conv => whnf
  refine br.h h ?_ ?_ ?_
  · rfl
  · clear h; intro hb h; conv => whnf
    all_goals (cases h)
    all_goals exact Res.of [] rfl nw_0 (by decide) js_0 (wr_s (rfl) (hs_cells rfl) wr_0)
  clear h; intro hb h; conv => whnf
  refine br.h h ?_ ?_ ?_
  · rfl
  · clear h; intro hb h; conv => whnf
    all_goals (cases h)
    all_goals exact Res.of [] rfl nw_0 (by decide) js_0 (wr_s (rfl) (hs_cells rfl) wr_0)
  clear h; intro hb h; conv => whnf
  replace h := oreq.elim h; obtain ⟨hb, h⟩ := h
  first | (refine req.intro hb ?_; conv => whnf) | skip
  replace h := oreq.elim h; obtain ⟨hb, h⟩ := h
  first | (refine req.intro hb ?_; conv => whnf) | skip
  let t : List UInt8 := (b.2.s.drop n.toNat).take (b.2.s.length - n.toNat)
  all_goals (cases h)
  all_goals exact Res.of [] rfl nw_0 (by decide) js_0 (wr_s (rfl) (hs_cells rfl) wr_0)
theorem ok83 (octet_Reader_Bad : octet_Reader → Option (Bool × octet_Reader)) (hS : SumsOK Try.prog (aget (sums83 octet_Reader_Bad))) : SumOK Try.prog 83 (s83 (octet_Reader_TextF octet_Reader_Bad)) := by
  refine SumOK.of_leads tab_ok (fun ar os r ha hr => ?_) ⟨Try.f83, rfl, by decide, rfl⟩
  replace hr : r83 (octet_Reader_TextF octet_Reader_Bad) ar (conts os) = some r := hr
  unfold r83 at hr
  generalize hc : conts os = C at hr
  have hq := dPt.elim hr; clear hr; obtain ⟨c0, l1, C, y0, rfl, rfl, e0, hr⟩ := hq; obtain rfl := unoctet_Reader_eq _ _ e0
  replace hr := dV.elim hr; obtain ⟨v1, l2, y1, rfl, e1, hr⟩ := hr; obtain rfl := asI_eq _ _ _ e1
  replace hr := dFin hr; obtain ⟨rfl, rfl, x, h, rfl⟩ := hr
  obtain ⟨os, rfl, ha, hc⟩ := kinds_some ha hc
  obtain rfl := kinds_nil hc
  exact ⟨_, rfl, leads83 octet_Reader_Bad hS _ _ x h⟩
def octet_Reader_Text : octet_Reader → Int → Option ((List UInt8) × octet_Reader) := octet_Reader_TextF octet_Reader_Bad
theorem lift83 : SumOK Try.prog 83 (s83 octet_Reader_Text) := ok83 octet_Reader_Bad (SumsOK.of_tab ⟨lift72, trivial⟩)
def octet_Reader_NumF (octet_Get : (List UInt8) → Int → Int → Option (Int × Bool)) (octet_Reader_Text : octet_Reader → Int → Option ((List UInt8) × octet_Reader)) (ra0 : octet_Reader) (k : Int) : Option (Int × octet_Reader) :=
  cond (decide (k < 1))
    (
    (octet_Reader_Text ra0 (-1)).bind fun t =>
    (octet_Get t.1 0 (-1)).bind fun xg =>
    some ((wI .i64 xg.1, t.2)))
    (
    cond (decide (k > 7))
      (
      (octet_Reader_Text ra0 (-1)).bind fun t1 =>
      (octet_Get t1.1 0 (-1)).bind fun xg1 =>
      some ((wI .i64 xg1.1, t1.2)))
      (
      (octet_Reader_Text ra0 k).bind fun t2 =>
      (octet_Get t2.1 0 k).bind fun xg2 =>
      some ((wI .i64 xg2.1, t2.2))))
def rx71 (x : Int × octet_Reader) : SRes := ⟨.int .i64 x.1, [], [some [.string ⟨⟨x.2.s⟩⟩, .bool x.2.made, .bool x.2.bad]]⟩
def r71 (g : octet_Reader → Int → Option (Int × octet_Reader)) : Dec := dPt 0 unoctet_Reader fun (y0 : octet_Reader) => dV (asI .i64) fun (y1 : Int) => dEnd (ofG (g y0 y1) rx71)
theorem r71_c {g : octet_Reader → Int → Option (Int × octet_Reader)} {y0 : octet_Reader} {y1 : Int} {x : Int × octet_Reader} (hx : g y0 y1 = some x) : r71 g [.pointer (some ⟨0, 0, none⟩), .int .i64 y1] [some [.string ⟨⟨y0.s⟩⟩, .bool y0.made, .bool y0.bad]] = some (rx71 x) := (dPt_eq (unoctet_Reader_c _)).trans ((dV_eq (asI_c _)).trans (ofG_eq hx))
def s71 (g : octet_Reader → Int → Option (Int × octet_Reader)) : Summ := ⟨[.pt 3, .v], r71 g⟩
theorem r71_eq {g : octet_Reader → Int → Option (Int × octet_Reader)} {y0 : octet_Reader} {y1 : Int} {x : Int × octet_Reader} (hx : g y0 y1 = some x) : (s71 g).run [.pointer (some ⟨0, 0, none⟩), .int .i64 y1] [some [.string ⟨⟨y0.s⟩⟩, .bool y0.made, .bool y0.bad]] = some (rx71 x) := r71_c hx
abbrev sums71 (octet_Get : (List UInt8) → Int → Int → Option (Int × Bool)) (octet_Reader_Text : octet_Reader → Int → Option ((List UInt8) × octet_Reader)) : List (Nat × Summ) := [(101, s101 octet_Get), (83, s83 octet_Reader_Text)]
theorem leads71 (octet_Get : (List UInt8) → Int → Int → Option (Int × Bool)) (octet_Reader_Text : octet_Reader → Int → Option ((List UInt8) × octet_Reader)) (hS : SumsOK Try.prog (aget (sums71 octet_Get octet_Reader_Text))) (ra0 : octet_Reader) (k : Int) (res : Int × octet_Reader) (h : octet_Reader_NumF octet_Get octet_Reader_Text ra0 k = some res) :
    Leads Try.prog 71 1 ⟨⟨71, 23, [(0, .pointer (some ⟨0, 0, none⟩)), (1, .int .i64 k)], [.code k71_10], [], false, none⟩, [], [(0, .cells [.string ⟨⟨ra0.s⟩⟩, .bool ra0.made, .bool ra0.bad])], 1⟩ (fun v H _ => Res 1 (rx71 res) v H) := by
  unfold octet_Reader_NumF at h
  refine ev_ok tab_ok hS true 3000 ?_
  conv => whnf
  refine br.h h ?_ ?_ ?_
  · rfl
  · clear h; intro hb h; conv => whnf
    replace h := obind.elim h; obtain ⟨t, hy, h⟩ := h
    refine sumK.introF [0] (sumRun_of (aqs := [.pointer (some ⟨0, 0, none⟩), .int .i64 (-1)]) (ws := [.win 0 0 3 true]) (n := 0) (m := 0) (t' := 1) (ra_cons rfl rfl (ra_cons rfl rfl ra_nil)) rfl (by rfl) (r83_eq hy) rfl rfl rfl rfl (wb_win rfl rfl rfl ⟨rfl, Nat.le_of_ble_eq_true rfl⟩ rfl rfl wb_nil) an_nil rfl) ?_
    conv => whnf
    replace h := obind.elim h; obtain ⟨xg, hy, h⟩ := h
    refine sumK.q rfl rfl (r101_eq hy) rfl rfl rfl ?_
    conv => whnf
    all_goals (cases h)
    all_goals exact Res.of [] rfl nw_0 (by decide) js_0 (wr_s (rfl) (hs_cells rfl) wr_0)
  clear h; intro hb h; conv => whnf
  refine br.h h ?_ ?_ ?_
  · rfl
  · clear h; intro hb h; conv => whnf
    replace h := obind.elim h; obtain ⟨t1, hy, h⟩ := h
    refine sumK.introF [0] (sumRun_of (aqs := [.pointer (some ⟨0, 0, none⟩), .int .i64 (-1)]) (ws := [.win 0 0 3 true]) (n := 0) (m := 0) (t' := 1) (ra_cons rfl rfl (ra_cons rfl rfl ra_nil)) rfl (by rfl) (r83_eq hy) rfl rfl rfl rfl (wb_win rfl rfl rfl ⟨rfl, Nat.le_of_ble_eq_true rfl⟩ rfl rfl wb_nil) an_nil rfl) ?_
    conv => whnf
    replace h := obind.elim h; obtain ⟨xg1, hy, h⟩ := h
    refine sumK.q rfl rfl (r101_eq hy) rfl rfl rfl ?_
    conv => whnf
    all_goals (cases h)
    all_goals exact Res.of [] rfl nw_0 (by decide) js_0 (wr_s (rfl) (hs_cells rfl) wr_0)
  clear h; intro hb h; conv => whnf
  replace h := obind.elim h; obtain ⟨t2, hy, h⟩ := h
  refine sumK.introF [0] (sumRun_of (aqs := [.pointer (some ⟨0, 0, none⟩), .int .i64 k]) (ws := [.win 0 0 3 true]) (n := 0) (m := 0) (t' := 1) (ra_cons rfl rfl (ra_cons rfl rfl ra_nil)) rfl (by rfl) (r83_eq hy) rfl rfl rfl rfl (wb_win rfl rfl rfl ⟨rfl, Nat.le_of_ble_eq_true rfl⟩ rfl rfl wb_nil) an_nil rfl) ?_
  conv => whnf
  replace h := obind.elim h; obtain ⟨xg2, hy, h⟩ := h
  refine sumK.q rfl rfl (r101_eq hy) rfl rfl rfl ?_
  conv => whnf
  all_goals (cases h)
  all_goals exact Res.of [] rfl nw_0 (by decide) js_0 (wr_s (rfl) (hs_cells rfl) wr_0)
theorem ok71 (octet_Get : (List UInt8) → Int → Int → Option (Int × Bool)) (octet_Reader_Text : octet_Reader → Int → Option ((List UInt8) × octet_Reader)) (hS : SumsOK Try.prog (aget (sums71 octet_Get octet_Reader_Text))) : SumOK Try.prog 71 (s71 (octet_Reader_NumF octet_Get octet_Reader_Text)) := by
  refine SumOK.of_leads tab_ok (fun ar os r ha hr => ?_) ⟨Try.f71, rfl, by decide, rfl⟩
  replace hr : r71 (octet_Reader_NumF octet_Get octet_Reader_Text) ar (conts os) = some r := hr
  unfold r71 at hr
  generalize hc : conts os = C at hr
  have hq := dPt.elim hr; clear hr; obtain ⟨c0, l1, C, y0, rfl, rfl, e0, hr⟩ := hq; obtain rfl := unoctet_Reader_eq _ _ e0
  replace hr := dV.elim hr; obtain ⟨v1, l2, y1, rfl, e1, hr⟩ := hr; obtain rfl := asI_eq _ _ _ e1
  replace hr := dFin hr; obtain ⟨rfl, rfl, x, h, rfl⟩ := hr
  obtain ⟨os, rfl, ha, hc⟩ := kinds_some ha hc
  obtain rfl := kinds_nil hc
  exact ⟨_, rfl, leads71 octet_Get octet_Reader_Text hS _ _ x h⟩
def octet_Reader_Num : octet_Reader → Int → Option (Int × octet_Reader) := octet_Reader_NumF octet_Get octet_Reader_Text
theorem lift71 : SumOK Try.prog 71 (s71 octet_Reader_Num) := ok71 octet_Get octet_Reader_Text (SumsOK.of_tab ⟨lift101, lift83, trivial⟩)
def octet_NewF (s : List UInt8) : Option octet_Reader :=
  some (octet_Reader.mk s true false)
def rx70 (x : octet_Reader) : SRes := ⟨.pointer (some ⟨0, 0, none⟩), [[.string ⟨⟨x.s⟩⟩, .bool x.made, .bool x.bad]], []⟩
def r70 (g : (List UInt8) → Option octet_Reader) : Dec := dV asS fun (y0 : List UInt8) => dEnd (ofG (g y0) rx70)
theorem r70_c {g : (List UInt8) → Option octet_Reader} {y0 : List UInt8} {x : octet_Reader} (hx : g y0 = some x) : r70 g [.string ⟨⟨y0⟩⟩] [] = some (rx70 x) := (dV_eq (asS_c)).trans (ofG_eq hx)
def s70 (g : (List UInt8) → Option octet_Reader) : Summ := ⟨[.v], r70 g⟩
theorem r70_eq {g : (List UInt8) → Option octet_Reader} {y0 : List UInt8} {x : octet_Reader} (hx : g y0 = some x) : (s70 g).run [.string ⟨⟨y0⟩⟩] [] = some (rx70 x) := r70_c hx
abbrev sums70 : List (Nat × Summ) := []
theorem leads70 (hS : SumsOK Try.prog (aget (sums70))) (s : List UInt8) (res : octet_Reader) (h : octet_NewF s = some res) :
    Leads Try.prog 70 0 ⟨⟨70, 6, [(0, .string ⟨⟨s⟩⟩)], [.code k70_3], [], false, none⟩, [], [], 0⟩ (fun v H _ => Res 0 (rx70 res) v H) := by
  unfold octet_NewF at h
  refine ev_ok tab_ok hS true 3000 ?_
  conv => whnf
  all_goals (cases h)
  all_goals exact Res.of [0] rfl (nw_s (rfl) (hs_cells rfl) nw_0) (by decide) (js_l (by decide) js_0) wr_0
theorem ok70 (hS : SumsOK Try.prog (aget (sums70))) : SumOK Try.prog 70 (s70 (octet_NewF)) := by
  refine SumOK.of_leads tab_ok (fun ar os r ha hr => ?_) ⟨Try.f70, rfl, by decide, rfl⟩
  replace hr : r70 (octet_NewF) ar (conts os) = some r := hr
  unfold r70 at hr
  generalize hc : conts os = C at hr
  replace hr := dV.elim hr; obtain ⟨v0, l1, y0, rfl, e0, hr⟩ := hr; obtain rfl := asS_eq _ _ e0
  replace hr := dFin hr; obtain ⟨rfl, rfl, x, h, rfl⟩ := hr
  obtain rfl := kinds_nil hc
  exact ⟨_, rfl, leads70 hS _ x h⟩
def octet_New : (List UInt8) → Option octet_Reader := octet_NewF
theorem lift70 : SumOK Try.prog 70 (s70 octet_New) := ok70 (SumsOK.of_tab trivial)
def icmp_overF (ipfour_Pseudo : api_Addr → api_Addr → Int → Int → Option (List UInt8)) (src : api_Addr) (dst : api_Addr) (n : Int) : Option ((List UInt8) × Bool) :=
  (ipfour_Pseudo src dst 58 n).bind fun p =>
  cond (p == [])
    (
    some ((p, !(p == []))))
    (
    cond (src.V6)
      (
      some ((p, !(p == []))))
      (
      some (([], true))))
def rx87 (x : (List UInt8) × Bool) : SRes := ⟨.tuple ⟨[.string ⟨⟨x.1⟩⟩, .bool x.2]⟩, [], []⟩
def r87 (g : api_Addr → api_Addr → Int → Option ((List UInt8) × Bool)) : Dec := dV uvapi_Addr fun (y0 : api_Addr) => dV uvapi_Addr fun (y1 : api_Addr) => dV (asI .i64) fun (y2 : Int) => dEnd (ofG (g y0 y1 y2) rx87)
theorem r87_c {g : api_Addr → api_Addr → Int → Option ((List UInt8) × Bool)} {y0 : api_Addr} {y1 : api_Addr} {y2 : Int} {x : (List UInt8) × Bool} (hx : g y0 y1 y2 = some x) : r87 g [.agg ⟨[.bool y0.V6, .int .u64 y0.Hi, .int .u64 y0.Lo]⟩, .agg ⟨[.bool y1.V6, .int .u64 y1.Hi, .int .u64 y1.Lo]⟩, .int .i64 y2] [] = some (rx87 x) := (dV_eq (uvapi_Addr_c _)).trans ((dV_eq (uvapi_Addr_c _)).trans ((dV_eq (asI_c _)).trans (ofG_eq hx)))
def s87 (g : api_Addr → api_Addr → Int → Option ((List UInt8) × Bool)) : Summ := ⟨[.v, .v, .v], r87 g⟩
theorem r87_eq {g : api_Addr → api_Addr → Int → Option ((List UInt8) × Bool)} {y0 : api_Addr} {y1 : api_Addr} {y2 : Int} {x : (List UInt8) × Bool} (hx : g y0 y1 y2 = some x) : (s87 g).run [.agg ⟨[.bool y0.V6, .int .u64 y0.Hi, .int .u64 y0.Lo]⟩, .agg ⟨[.bool y1.V6, .int .u64 y1.Hi, .int .u64 y1.Lo]⟩, .int .i64 y2] [] = some (rx87 x) := r87_c hx
abbrev sums87 (ipfour_Pseudo : api_Addr → api_Addr → Int → Int → Option (List UInt8)) : List (Nat × Summ) := [(27, s27 ipfour_Pseudo)]
theorem leads87 (ipfour_Pseudo : api_Addr → api_Addr → Int → Int → Option (List UInt8)) (hS : SumsOK Try.prog (aget (sums87 ipfour_Pseudo))) (src : api_Addr) (dst : api_Addr) (n : Int) (res : (List UInt8) × Bool) (h : icmp_overF ipfour_Pseudo src dst n = some res) :
    Leads Try.prog 87 0 ⟨⟨87, 22, [(0, .agg ⟨[.bool src.V6, .int .u64 src.Hi, .int .u64 src.Lo]⟩), (1, .agg ⟨[.bool dst.V6, .int .u64 dst.Hi, .int .u64 dst.Lo]⟩), (2, .int .i64 n)], [.code k87_11], [], false, none⟩, [], [], 0⟩ (fun v H _ => Res 0 (rx87 res) v H) := by
  unfold icmp_overF at h
  refine ev_ok tab_ok hS true 3000 ?_
  conv => whnf
  replace h := obind.elim h; obtain ⟨p, hy, h⟩ := h
  refine sumK.q rfl rfl (r27_eq hy) rfl rfl rfl ?_
  conv => whnf
  refine br.h h ?_ ?_ ?_
  · rfl
  · clear h; intro hb h; conv => whnf
    all_goals (cases h; exact Res.z rfl rfl rfl)
  clear h; intro hb h; conv => whnf
  refine br.h h ?_ ?_ ?_
  · rfl
  · clear h; intro hb h; conv => whnf
    all_goals (cases h; exact Res.z rfl rfl rfl)
  clear h; intro hb h; conv => whnf
  all_goals (cases h; exact Res.z rfl rfl rfl)
theorem ok87 (ipfour_Pseudo : api_Addr → api_Addr → Int → Int → Option (List UInt8)) (hS : SumsOK Try.prog (aget (sums87 ipfour_Pseudo))) : SumOK Try.prog 87 (s87 (icmp_overF ipfour_Pseudo)) := by
  refine SumOK.of_leads tab_ok (fun ar os r ha hr => ?_) ⟨Try.f87, rfl, by decide, rfl⟩
  replace hr : r87 (icmp_overF ipfour_Pseudo) ar (conts os) = some r := hr
  unfold r87 at hr
  generalize hc : conts os = C at hr
  replace hr := dV.elim hr; obtain ⟨v0, l1, y0, rfl, e0, hr⟩ := hr; obtain rfl := uvapi_Addr_eq _ _ e0
  replace hr := dV.elim hr; obtain ⟨v1, l2, y1, rfl, e1, hr⟩ := hr; obtain rfl := uvapi_Addr_eq _ _ e1
  replace hr := dV.elim hr; obtain ⟨v2, l3, y2, rfl, e2, hr⟩ := hr; obtain rfl := asI_eq _ _ _ e2
  replace hr := dFin hr; obtain ⟨rfl, rfl, x, h, rfl⟩ := hr
  obtain rfl := kinds_nil hc
  exact ⟨_, rfl, leads87 ipfour_Pseudo hS _ _ _ x h⟩
def icmp_over : api_Addr → api_Addr → Int → Option ((List UInt8) × Bool) := icmp_overF ipfour_Pseudo
theorem lift87 : SumOK Try.prog 87 (s87 icmp_over) := ok87 ipfour_Pseudo (SumsOK.of_tab ⟨lift27, trivial⟩)
def icmp_withinF (n : Int) (most : Int) : Option Bool :=
  cond (decide (0 ≤ n))
    (
    some (decide (n ≤ most)))
    (
    some (false))
def rx121 (x : Bool) : SRes := ⟨.bool x, [], []⟩
def r121 (g : Int → Int → Option Bool) : Dec := dV (asI .i64) fun (y0 : Int) => dV (asI .i64) fun (y1 : Int) => dEnd (ofG (g y0 y1) rx121)
theorem r121_c {g : Int → Int → Option Bool} {y0 : Int} {y1 : Int} {x : Bool} (hx : g y0 y1 = some x) : r121 g [.int .i64 y0, .int .i64 y1] [] = some (rx121 x) := (dV_eq (asI_c _)).trans ((dV_eq (asI_c _)).trans (ofG_eq hx))
def s121 (g : Int → Int → Option Bool) : Summ := ⟨[.v, .v], r121 g⟩
theorem r121_eq {g : Int → Int → Option Bool} {y0 : Int} {y1 : Int} {x : Bool} (hx : g y0 y1 = some x) : (s121 g).run [.int .i64 y0, .int .i64 y1] [] = some (rx121 x) := r121_c hx
abbrev sums121 : List (Nat × Summ) := []
theorem leads121 (hS : SumsOK Try.prog (aget (sums121))) (n : Int) (most : Int) (res : Bool) (h : icmp_withinF n most = some res) :
    Leads Try.prog 121 0 ⟨⟨121, 12, [(0, .int .i64 n), (1, .int .i64 most)], [.code k121_3], [], false, none⟩, [], [], 0⟩ (fun v H _ => Res 0 (rx121 res) v H) := by
  unfold icmp_withinF at h
  refine ev_ok tab_ok hS true 3000 ?_
  conv => whnf
  refine br.h h ?_ ?_ ?_
  · rfl
  · clear h; intro hb h; conv => whnf
    all_goals (cases h; exact Res.z rfl rfl rfl)
  clear h; intro hb h; conv => whnf
  all_goals (cases h; exact Res.z rfl rfl rfl)
theorem ok121 (hS : SumsOK Try.prog (aget (sums121))) : SumOK Try.prog 121 (s121 (icmp_withinF)) := by
  refine SumOK.of_leads tab_ok (fun ar os r ha hr => ?_) ⟨Try.f121, rfl, by decide, rfl⟩
  replace hr : r121 (icmp_withinF) ar (conts os) = some r := hr
  unfold r121 at hr
  generalize hc : conts os = C at hr
  replace hr := dV.elim hr; obtain ⟨v0, l1, y0, rfl, e0, hr⟩ := hr; obtain rfl := asI_eq _ _ _ e0
  replace hr := dV.elim hr; obtain ⟨v1, l2, y1, rfl, e1, hr⟩ := hr; obtain rfl := asI_eq _ _ _ e1
  replace hr := dFin hr; obtain ⟨rfl, rfl, x, h, rfl⟩ := hr
  obtain rfl := kinds_nil hc
  exact ⟨_, rfl, leads121 hS _ _ x h⟩
def icmp_within : Int → Int → Option Bool := icmp_withinF
theorem lift121 : SumOK Try.prog 121 (s121 icmp_within) := ok121 (SumsOK.of_tab trivial)
def icmp_fitsF (kind : Int) (code : Int) (v6 : Bool) : Option Bool :=
  cond (kind == 2)
    (
    cond (v6)
      (
      some (code == 0))
      (
      some (code == 4)))
    (
    cond (kind == 1)
      (
      cond (!v6)
        (
        some (code != 4))
        (
        some (true)))
      (
      some (true)))
def rx122 (x : Bool) : SRes := ⟨.bool x, [], []⟩
def r122 (g : Int → Int → Bool → Option Bool) : Dec := dV (asI .i64) fun (y0 : Int) => dV (asI .i64) fun (y1 : Int) => dV asB fun (y2 : Bool) => dEnd (ofG (g y0 y1 y2) rx122)
theorem r122_c {g : Int → Int → Bool → Option Bool} {y0 : Int} {y1 : Int} {y2 : Bool} {x : Bool} (hx : g y0 y1 y2 = some x) : r122 g [.int .i64 y0, .int .i64 y1, .bool y2] [] = some (rx122 x) := (dV_eq (asI_c _)).trans ((dV_eq (asI_c _)).trans ((dV_eq (asB_c)).trans (ofG_eq hx)))
def s122 (g : Int → Int → Bool → Option Bool) : Summ := ⟨[.v, .v, .v], r122 g⟩
theorem r122_eq {g : Int → Int → Bool → Option Bool} {y0 : Int} {y1 : Int} {y2 : Bool} {x : Bool} (hx : g y0 y1 y2 = some x) : (s122 g).run [.int .i64 y0, .int .i64 y1, .bool y2] [] = some (rx122 x) := r122_c hx
abbrev sums122 : List (Nat × Summ) := []
theorem leads122 (hS : SumsOK Try.prog (aget (sums122))) (kind : Int) (code : Int) (v6 : Bool) (res : Bool) (h : icmp_fitsF kind code v6 = some res) :
    Leads Try.prog 122 0 ⟨⟨122, 29, [(0, .int .i64 kind), (1, .int .i64 code), (2, .bool v6)], [.code k122_20], [], false, none⟩, [], [], 0⟩ (fun v H _ => Res 0 (rx122 res) v H) := by
  unfold icmp_fitsF at h
  refine ev_ok tab_ok hS true 3000 ?_
  conv => whnf
  refine br.h h ?_ ?_ ?_
  · rfl
  · clear h; intro hb h; conv => whnf
    refine br.h h ?_ ?_ ?_
    · rfl
    · clear h; intro hb h; conv => whnf
      all_goals (cases h; exact Res.z rfl rfl rfl)
    clear h; intro hb h; conv => whnf
    refine br.pos ?_ ?_; (focus (clear h; first | assumption | (simp_all; done)))
    conv => whnf
    all_goals (cases h; exact Res.z rfl rfl rfl)
  clear h; intro hb h; conv => whnf
  refine br.neg ?_ ?_; (focus (clear h; first | assumption | (simp_all; done)))
  conv => whnf
  refine br.h2 h ?_ ?_ ?_
  · rfl
  · clear h; intro hb h; conv => whnf
    all_goals (cases h; exact Res.z rfl rfl rfl)
  clear h; intro hb h; conv => whnf
  refine br.h h ?_ ?_ ?_
  · rfl
  · clear h; intro hb h; conv => whnf
    all_goals (cases h; exact Res.z rfl rfl rfl)
  clear h; intro hb h; conv => whnf
  all_goals (cases h; exact Res.z rfl rfl rfl)
theorem ok122 (hS : SumsOK Try.prog (aget (sums122))) : SumOK Try.prog 122 (s122 (icmp_fitsF)) := by
  refine SumOK.of_leads tab_ok (fun ar os r ha hr => ?_) ⟨Try.f122, rfl, by decide, rfl⟩
  replace hr : r122 (icmp_fitsF) ar (conts os) = some r := hr
  unfold r122 at hr
  generalize hc : conts os = C at hr
  replace hr := dV.elim hr; obtain ⟨v0, l1, y0, rfl, e0, hr⟩ := hr; obtain rfl := asI_eq _ _ _ e0
  replace hr := dV.elim hr; obtain ⟨v1, l2, y1, rfl, e1, hr⟩ := hr; obtain rfl := asI_eq _ _ _ e1
  replace hr := dV.elim hr; obtain ⟨v2, l3, y2, rfl, e2, hr⟩ := hr; obtain rfl := asB_eq _ _ e2
  replace hr := dFin hr; obtain ⟨rfl, rfl, x, h, rfl⟩ := hr
  obtain rfl := kinds_nil hc
  exact ⟨_, rfl, leads122 hS _ _ _ x h⟩
def icmp_fits : Int → Int → Bool → Option Bool := icmp_fitsF
theorem lift122 : SumOK Try.prog 122 (s122 icmp_fits) := ok122 (SumsOK.of_tab trivial)
def icmp_Message_mayF (icmp_fits : Int → Int → Bool → Option Bool) (icmp_within : Int → Int → Option Bool) (m : icmp_Message) (v6 : Bool) : Option Bool :=
  cond (decide (m.Kind < 1))
    (
    some (false))
    (
    cond (decide (m.Kind > 3))
      (
      some (false))
      (
      (icmp_within m.Code 255).bind fun w =>
      cond (!w)
        (
        some (false))
        (
        (icmp_within m.MTU 65535).bind fun w1 =>
        cond (!w1)
          (
          some (false))
          (
          cond (decide ((m.Quote.length : Int) > 1232))
            (
            some (false))
            (
            (icmp_fits m.Kind m.Code v6).bind fun f =>
            cond (f)
              (
              cond (m.Kind == 2)
                (
                some (true))
                (
                some (m.MTU == 0)))
              (
              some (false)))))))
def rx88 (x : Bool) : SRes := ⟨.bool x, [], []⟩
def r88 (g : icmp_Message → Bool → Option Bool) : Dec := dV uvicmp_Message fun (y0 : icmp_Message) => dV asB fun (y1 : Bool) => dEnd (ofG (g y0 y1) rx88)
theorem r88_c {g : icmp_Message → Bool → Option Bool} {y0 : icmp_Message} {y1 : Bool} {x : Bool} (hx : g y0 y1 = some x) : r88 g [.agg ⟨[.int .i64 y0.Kind, .int .i64 y0.Code, .int .i64 y0.MTU, .string ⟨⟨y0.Quote⟩⟩]⟩, .bool y1] [] = some (rx88 x) := (dV_eq (uvicmp_Message_c _)).trans ((dV_eq (asB_c)).trans (ofG_eq hx))
def s88 (g : icmp_Message → Bool → Option Bool) : Summ := ⟨[.v, .v], r88 g⟩
theorem r88_eq {g : icmp_Message → Bool → Option Bool} {y0 : icmp_Message} {y1 : Bool} {x : Bool} (hx : g y0 y1 = some x) : (s88 g).run [.agg ⟨[.int .i64 y0.Kind, .int .i64 y0.Code, .int .i64 y0.MTU, .string ⟨⟨y0.Quote⟩⟩]⟩, .bool y1] [] = some (rx88 x) := r88_c hx
abbrev sums88 (icmp_fits : Int → Int → Bool → Option Bool) (icmp_within : Int → Int → Option Bool) : List (Nat × Summ) := [(122, s122 icmp_fits), (121, s121 icmp_within)]
theorem leads88 (icmp_fits : Int → Int → Bool → Option Bool) (icmp_within : Int → Int → Option Bool) (hS : SumsOK Try.prog (aget (sums88 icmp_fits icmp_within))) (m : icmp_Message) (v6 : Bool) (res : Bool) (h : icmp_Message_mayF icmp_fits icmp_within m v6 = some res) :
    Leads Try.prog 88 0 ⟨⟨88, 47, [(0, .agg ⟨[.int .i64 m.Kind, .int .i64 m.Code, .int .i64 m.MTU, .string ⟨⟨m.Quote⟩⟩]⟩), (1, .bool v6)], [.code k88_9], [], false, none⟩, [], [], 0⟩ (fun v H _ => Res 0 (rx88 res) v H) := by
  unfold icmp_Message_mayF at h
  refine ev_ok tab_ok hS true 3000 ?_
  conv => whnf
  refine br.h h ?_ ?_ ?_
  · rfl
  · clear h; intro hb h; conv => whnf
    all_goals (cases h; exact Res.z rfl rfl rfl)
  clear h; intro hb h; conv => whnf
  refine br.h h ?_ ?_ ?_
  · rfl
  · clear h; intro hb h; conv => whnf
    all_goals (cases h; exact Res.z rfl rfl rfl)
  clear h; intro hb h; conv => whnf
  replace h := obind.elim h; obtain ⟨w, hy, h⟩ := h
  refine sumK.q rfl rfl (r121_eq hy) rfl rfl rfl ?_
  conv => whnf
  refine br.h h ?_ ?_ ?_
  · rfl
  · clear h; intro hb h; conv => whnf
    all_goals (cases h; exact Res.z rfl rfl rfl)
  clear h; intro hb h; conv => whnf
  replace h := obind.elim h; obtain ⟨w1, hy, h⟩ := h
  refine sumK.q rfl rfl (r121_eq hy) rfl rfl rfl ?_
  conv => whnf
  refine br.h h ?_ ?_ ?_
  · rfl
  · clear h; intro hb h; conv => whnf
    all_goals (cases h; exact Res.z rfl rfl rfl)
  clear h; intro hb h; conv => whnf
  refine br.h h ?_ ?_ ?_
  · rfl
  · clear h; intro hb h; conv => whnf
    all_goals (cases h; exact Res.z rfl rfl rfl)
  clear h; intro hb h; conv => whnf
  replace h := obind.elim h; obtain ⟨f, hy, h⟩ := h
  refine sumK.q rfl rfl (r122_eq hy) rfl rfl rfl ?_
  conv => whnf
  refine br.h2 h ?_ ?_ ?_
  · rfl
  · clear h; intro hb h; conv => whnf
    all_goals (cases h; exact Res.z rfl rfl rfl)
  clear h; intro hb h; conv => whnf
  refine br.h h ?_ ?_ ?_
  · rfl
  · clear h; intro hb h; conv => whnf
    all_goals (cases h; exact Res.z rfl rfl rfl)
  clear h; intro hb h; conv => whnf
  all_goals (cases h; exact Res.z rfl rfl rfl)
theorem ok88 (icmp_fits : Int → Int → Bool → Option Bool) (icmp_within : Int → Int → Option Bool) (hS : SumsOK Try.prog (aget (sums88 icmp_fits icmp_within))) : SumOK Try.prog 88 (s88 (icmp_Message_mayF icmp_fits icmp_within)) := by
  refine SumOK.of_leads tab_ok (fun ar os r ha hr => ?_) ⟨Try.f88, rfl, by decide, rfl⟩
  replace hr : r88 (icmp_Message_mayF icmp_fits icmp_within) ar (conts os) = some r := hr
  unfold r88 at hr
  generalize hc : conts os = C at hr
  replace hr := dV.elim hr; obtain ⟨v0, l1, y0, rfl, e0, hr⟩ := hr; obtain rfl := uvicmp_Message_eq _ _ e0
  replace hr := dV.elim hr; obtain ⟨v1, l2, y1, rfl, e1, hr⟩ := hr; obtain rfl := asB_eq _ _ e1
  replace hr := dFin hr; obtain ⟨rfl, rfl, x, h, rfl⟩ := hr
  obtain rfl := kinds_nil hc
  exact ⟨_, rfl, leads88 icmp_fits icmp_within hS _ _ x h⟩
def icmp_Message_may : icmp_Message → Bool → Option Bool := icmp_Message_mayF icmp_fits icmp_within
theorem lift88 : SumOK Try.prog 88 (s88 icmp_Message_may) := ok88 icmp_fits icmp_within (SumsOK.of_tab ⟨lift122, lift121, trivial⟩)
def icmp_typesF : Option Arr4_Arr2_Int :=
  some (Arr4_Arr2_Int.mk (Arr2_Int.mk (-1) (-1)) (Arr2_Int.mk 3 1) (Arr2_Int.mk 3 2) (Arr2_Int.mk 11 3))
def rx89 (x : Arr4_Arr2_Int) : SRes := ⟨.agg ⟨[.int .i64 x.e0.e0, .int .i64 x.e0.e1, .int .i64 x.e1.e0, .int .i64 x.e1.e1, .int .i64 x.e2.e0, .int .i64 x.e2.e1, .int .i64 x.e3.e0, .int .i64 x.e3.e1]⟩, [], []⟩
def r89 (g : Option Arr4_Arr2_Int) : Dec := dEnd (ofG (g) rx89)
theorem r89_c {g : Option Arr4_Arr2_Int} {x : Arr4_Arr2_Int} (hx : g = some x) : r89 g [] [] = some (rx89 x) := ofG_eq hx
def s89 (g : Option Arr4_Arr2_Int) : Summ := ⟨[], r89 g⟩
theorem r89_eq {g : Option Arr4_Arr2_Int} {x : Arr4_Arr2_Int} (hx : g = some x) : (s89 g).run [] [] = some (rx89 x) := r89_c hx
abbrev sums89 : List (Nat × Summ) := []
theorem leads89 (hS : SumsOK Try.prog (aget (sums89))) (res : Arr4_Arr2_Int) (h : icmp_typesF = some res) :
    Leads Try.prog 89 0 ⟨⟨89, 6, [], [.code k89_3], [], false, none⟩, [], [], 0⟩ (fun v H _ => Res 0 (rx89 res) v H) := by
  unfold icmp_typesF at h
  refine ev_ok tab_ok hS true 3000 ?_
  conv => whnf
  all_goals (cases h; exact Res.z rfl rfl rfl)
theorem ok89 (hS : SumsOK Try.prog (aget (sums89))) : SumOK Try.prog 89 (s89 (icmp_typesF)) := by
  refine SumOK.of_leads tab_ok (fun ar os r ha hr => ?_) ⟨Try.f89, rfl, by decide, rfl⟩
  replace hr : r89 (icmp_typesF) ar (conts os) = some r := hr
  unfold r89 at hr
  generalize hc : conts os = C at hr
  replace hr := dFin hr; obtain ⟨rfl, rfl, x, h, rfl⟩ := hr
  obtain rfl := kinds_nil hc
  exact ⟨_, rfl, leads89 hS x h⟩
def icmp_types : Option Arr4_Arr2_Int := icmp_typesF
theorem lift89 : SumOK Try.prog 89 (s89 icmp_types) := ok89 (SumsOK.of_tab trivial)
def icmp_sideF (v6 : Bool) : Option Int :=
  cond (v6)
    (
    some (1))
    (
    some (0))
def rx90 (x : Int) : SRes := ⟨.int .i64 x, [], []⟩
def r90 (g : Bool → Option Int) : Dec := dV asB fun (y0 : Bool) => dEnd (ofG (g y0) rx90)
theorem r90_c {g : Bool → Option Int} {y0 : Bool} {x : Int} (hx : g y0 = some x) : r90 g [.bool y0] [] = some (rx90 x) := (dV_eq (asB_c)).trans (ofG_eq hx)
def s90 (g : Bool → Option Int) : Summ := ⟨[.v], r90 g⟩
theorem r90_eq {g : Bool → Option Int} {y0 : Bool} {x : Int} (hx : g y0 = some x) : (s90 g).run [.bool y0] [] = some (rx90 x) := r90_c hx
abbrev sums90 : List (Nat × Summ) := []
theorem leads90 (hS : SumsOK Try.prog (aget (sums90))) (v6 : Bool) (res : Int) (h : icmp_sideF v6 = some res) :
    Leads Try.prog 90 0 ⟨⟨90, 4, [(0, .bool v6)], [.code k90_9], [], false, none⟩, [], [], 0⟩ (fun v H _ => Res 0 (rx90 res) v H) := by
  unfold icmp_sideF at h
  refine ev_ok tab_ok hS true 3000 ?_
  conv => whnf
  refine br.h h ?_ ?_ ?_
  · rfl
  · clear h; intro hb h; conv => whnf
    all_goals (cases h; exact Res.z rfl rfl rfl)
  clear h; intro hb h; conv => whnf
  all_goals (cases h; exact Res.z rfl rfl rfl)
theorem ok90 (hS : SumsOK Try.prog (aget (sums90))) : SumOK Try.prog 90 (s90 (icmp_sideF)) := by
  refine SumOK.of_leads tab_ok (fun ar os r ha hr => ?_) ⟨Try.f90, rfl, by decide, rfl⟩
  replace hr : r90 (icmp_sideF) ar (conts os) = some r := hr
  unfold r90 at hr
  generalize hc : conts os = C at hr
  replace hr := dV.elim hr; obtain ⟨v0, l1, y0, rfl, e0, hr⟩ := hr; obtain rfl := asB_eq _ _ e0
  replace hr := dFin hr; obtain ⟨rfl, rfl, x, h, rfl⟩ := hr
  obtain rfl := kinds_nil hc
  exact ⟨_, rfl, leads90 hS _ x h⟩
def icmp_side : Bool → Option Int := icmp_sideF
theorem lift90 : SumOK Try.prog 90 (s90 icmp_side) := ok90 (SumsOK.of_tab trivial)
def icmp_PutF (check_Of : (List UInt8) → Option Int) (check_Set : (List UInt8) → Int → Int → Int → Option (List UInt8)) (icmp_Message_may : icmp_Message → Bool → Option Bool) (icmp_over : api_Addr → api_Addr → Int → Option ((List UInt8) × Bool)) (icmp_side : Bool → Option Int) (icmp_types : Option Arr4_Arr2_Int) (octet_Put : Int → Int → Option (List UInt8)) (m : icmp_Message) (src : api_Addr) (dst : api_Addr) : Option ((List UInt8) × Int) :=
  (icmp_over src dst (wI .i64 (8 + (m.Quote.length : Int)))).bind fun xo =>
  cond (!xo.2)
    (
    some (([], 1)))
    (
    (icmp_Message_may m src.V6).bind fun m1 =>
    cond (!m1)
      (
      some (([], 1)))
      (
      (icmp_types).bind fun t =>
      oreq (decide (0 ≤ m.Kind ∧ m.Kind < 4)) <|
      ([udp_Head.mk t.e0.e0 t.e0.e1, udp_Head.mk t.e1.e0 t.e1.e1, udp_Head.mk t.e2.e0 t.e2.e1, udp_Head.mk t.e3.e0 t.e3.e1][m.Kind.toNat]?).bind fun (e : udp_Head) =>
      (icmp_side src.V6).bind fun s =>
      oreq (decide (0 ≤ s ∧ s < 2)) <|
      ([e.SPort, e.DPort][s.toNat]?).bind fun (e1 : Int) =>
      let t1 := iorI .u64 (wI .u64 ((wI .u64 e1) * 2 ^ 8)) (wI .u64 m.Code)
      (octet_Put t1 2).bind fun p =>
      (octet_Put (wI .u64 m.MTU) 6).bind fun p1 =>
      oreq (decide (p.length + p1.length < 2 ^ 63)) <|
      oreq (decide ((p ++ p1).length + m.Quote.length < 2 ^ 63)) <|
      oreq (decide (xo.1.length + ((p ++ p1) ++ m.Quote).length < 2 ^ 63)) <|
      (check_Of (xo.1 ++ ((p ++ p1) ++ m.Quote))).bind fun xo1 =>
      (check_Set ((p ++ p1) ++ m.Quote) 2 2 (wI .u64 xo1)).bind fun s1 =>
      some ((s1, 0))))
def rx31 (x : (List UInt8) × Int) : SRes := ⟨.tuple ⟨[.string ⟨⟨x.1⟩⟩, .int .i64 x.2]⟩, [], []⟩
def r31 (g : icmp_Message → api_Addr → api_Addr → Option ((List UInt8) × Int)) : Dec := dV uvicmp_Message fun (y0 : icmp_Message) => dV uvapi_Addr fun (y1 : api_Addr) => dV uvapi_Addr fun (y2 : api_Addr) => dEnd (ofG (g y0 y1 y2) rx31)
theorem r31_c {g : icmp_Message → api_Addr → api_Addr → Option ((List UInt8) × Int)} {y0 : icmp_Message} {y1 : api_Addr} {y2 : api_Addr} {x : (List UInt8) × Int} (hx : g y0 y1 y2 = some x) : r31 g [.agg ⟨[.int .i64 y0.Kind, .int .i64 y0.Code, .int .i64 y0.MTU, .string ⟨⟨y0.Quote⟩⟩]⟩, .agg ⟨[.bool y1.V6, .int .u64 y1.Hi, .int .u64 y1.Lo]⟩, .agg ⟨[.bool y2.V6, .int .u64 y2.Hi, .int .u64 y2.Lo]⟩] [] = some (rx31 x) := (dV_eq (uvicmp_Message_c _)).trans ((dV_eq (uvapi_Addr_c _)).trans ((dV_eq (uvapi_Addr_c _)).trans (ofG_eq hx)))
def s31 (g : icmp_Message → api_Addr → api_Addr → Option ((List UInt8) × Int)) : Summ := ⟨[.v, .v, .v], r31 g⟩
theorem r31_eq {g : icmp_Message → api_Addr → api_Addr → Option ((List UInt8) × Int)} {y0 : icmp_Message} {y1 : api_Addr} {y2 : api_Addr} {x : (List UInt8) × Int} (hx : g y0 y1 y2 = some x) : (s31 g).run [.agg ⟨[.int .i64 y0.Kind, .int .i64 y0.Code, .int .i64 y0.MTU, .string ⟨⟨y0.Quote⟩⟩]⟩, .agg ⟨[.bool y1.V6, .int .u64 y1.Hi, .int .u64 y1.Lo]⟩, .agg ⟨[.bool y2.V6, .int .u64 y2.Hi, .int .u64 y2.Lo]⟩] [] = some (rx31 x) := r31_c hx
abbrev sums31 (check_Of : (List UInt8) → Option Int) (check_Set : (List UInt8) → Int → Int → Int → Option (List UInt8)) (icmp_Message_may : icmp_Message → Bool → Option Bool) (icmp_over : api_Addr → api_Addr → Int → Option ((List UInt8) × Bool)) (icmp_side : Bool → Option Int) (icmp_types : Option Arr4_Arr2_Int) (octet_Put : Int → Int → Option (List UInt8)) : List (Nat × Summ) := [(64, s64 check_Of), (65, s65 check_Set), (88, s88 icmp_Message_may), (87, s87 icmp_over), (90, s90 icmp_side), (89, s89 icmp_types), (62, s62 octet_Put)]
theorem leads31 (check_Of : (List UInt8) → Option Int) (check_Set : (List UInt8) → Int → Int → Int → Option (List UInt8)) (icmp_Message_may : icmp_Message → Bool → Option Bool) (icmp_over : api_Addr → api_Addr → Int → Option ((List UInt8) × Bool)) (icmp_side : Bool → Option Int) (icmp_types : Option Arr4_Arr2_Int) (octet_Put : Int → Int → Option (List UInt8)) (hS : SumsOK Try.prog (aget (sums31 check_Of check_Set icmp_Message_may icmp_over icmp_side icmp_types octet_Put))) (m : icmp_Message) (src : api_Addr) (dst : api_Addr) (res : (List UInt8) × Int) (h : icmp_PutF check_Of check_Set icmp_Message_may icmp_over icmp_side icmp_types octet_Put m src dst = some res) :
    Leads Try.prog 31 0 ⟨⟨31, 62, [(0, .agg ⟨[.int .i64 m.Kind, .int .i64 m.Code, .int .i64 m.MTU, .string ⟨⟨m.Quote⟩⟩]⟩), (1, .agg ⟨[.bool src.V6, .int .u64 src.Hi, .int .u64 src.Lo]⟩), (2, .agg ⟨[.bool dst.V6, .int .u64 dst.Hi, .int .u64 dst.Lo]⟩)], [.code k31_15], [], false, none⟩, [], [], 0⟩ (fun v H _ => Res 0 (rx31 res) v H) := by
  unfold icmp_PutF at h
  refine ev_ok tab_ok hS true 3000 ?_
  conv => whnf
  replace h := obind.elim h; obtain ⟨xo, hy, h⟩ := h
  refine sumK.q rfl rfl (r87_eq hy) rfl rfl rfl ?_
  conv => whnf
  refine br.h h ?_ ?_ ?_
  · rfl
  · clear h; intro hb h; conv => whnf
    all_goals (cases h; exact Res.z rfl rfl rfl)
  clear h; intro hb h; conv => whnf
  replace h := obind.elim h; obtain ⟨m1, hy, h⟩ := h
  refine sumK.q rfl rfl (r88_eq hy) rfl rfl rfl ?_
  conv => whnf
  refine br.h h ?_ ?_ ?_
  · rfl
  · clear h; intro hb h; conv => whnf
    all_goals (cases h; exact Res.z rfl rfl rfl)
  clear h; intro hb h; conv => whnf
  replace h := obind.elim h; obtain ⟨t, hy, h⟩ := h
  refine sumK.q rfl rfl (r89_eq hy) rfl rfl rfl ?_
  conv => whnf
  replace h := oreq.elim h; obtain ⟨hb, h⟩ := h
  replace h := obind.elim h; obtain ⟨e, hy, h⟩ := h
  refine ix_T (xs := [udp_Head.mk t.e0.e0 t.e0.e1, udp_Head.mk t.e1.e0 t.e1.e1, udp_Head.mk t.e2.e0 t.e2.e1, udp_Head.mk t.e3.e0 t.e3.e1]) cudp_Head_len hb hy rfl rfl ?_
  conv => whnf
  replace h := obind.elim h; obtain ⟨s, hy, h⟩ := h
  refine sumK.q rfl rfl (r90_eq hy) rfl rfl rfl ?_
  conv => whnf
  replace h := oreq.elim h; obtain ⟨hb, h⟩ := h
  first | (refine req.intro hb ?_; conv => whnf) | skip
  replace h := obind.elim h; obtain ⟨e1, hy, h⟩ := h
  refine rd.I hy (by first | rfl | (rw [Nat.zero_add, Nat.mul_one]; done) | omega) ?_
  conv => whnf
  let t1 : Int := iorI .u64 (wI .u64 ((wI .u64 e1) * 2 ^ 8)) (wI .u64 m.Code)
  replace h := obind.elim h; obtain ⟨p, hy, h⟩ := h
  refine sumK.q rfl rfl (r62_eq hy) rfl rfl rfl ?_
  conv => whnf
  replace h := obind.elim h; obtain ⟨p1, hy, h⟩ := h
  refine sumK.q rfl rfl (r62_eq hy) rfl rfl rfl ?_
  conv => whnf
  replace h := oreq.elim h; obtain ⟨hb, h⟩ := h
  first | (refine req.intro hb ?_; conv => whnf) | skip
  replace h := oreq.elim h; obtain ⟨hb, h⟩ := h
  first | (refine req.intro hb ?_; conv => whnf) | skip
  replace h := oreq.elim h; obtain ⟨hb, h⟩ := h
  first | (refine req.intro hb ?_; conv => whnf) | skip
  replace h := obind.elim h; obtain ⟨xo1, hy, h⟩ := h
  refine sumK.q rfl rfl (r64_eq hy) rfl rfl rfl ?_
  conv => whnf
  replace h := obind.elim h; obtain ⟨s1, hy, h⟩ := h
  refine sumK.q rfl rfl (r65_eq hy) rfl rfl rfl ?_
  conv => whnf
  all_goals (cases h; exact Res.z rfl rfl rfl)
theorem ok31 (check_Of : (List UInt8) → Option Int) (check_Set : (List UInt8) → Int → Int → Int → Option (List UInt8)) (icmp_Message_may : icmp_Message → Bool → Option Bool) (icmp_over : api_Addr → api_Addr → Int → Option ((List UInt8) × Bool)) (icmp_side : Bool → Option Int) (icmp_types : Option Arr4_Arr2_Int) (octet_Put : Int → Int → Option (List UInt8)) (hS : SumsOK Try.prog (aget (sums31 check_Of check_Set icmp_Message_may icmp_over icmp_side icmp_types octet_Put))) : SumOK Try.prog 31 (s31 (icmp_PutF check_Of check_Set icmp_Message_may icmp_over icmp_side icmp_types octet_Put)) := by
  refine SumOK.of_leads tab_ok (fun ar os r ha hr => ?_) ⟨Try.f31, rfl, by decide, rfl⟩
  replace hr : r31 (icmp_PutF check_Of check_Set icmp_Message_may icmp_over icmp_side icmp_types octet_Put) ar (conts os) = some r := hr
  unfold r31 at hr
  generalize hc : conts os = C at hr
  replace hr := dV.elim hr; obtain ⟨v0, l1, y0, rfl, e0, hr⟩ := hr; obtain rfl := uvicmp_Message_eq _ _ e0
  replace hr := dV.elim hr; obtain ⟨v1, l2, y1, rfl, e1, hr⟩ := hr; obtain rfl := uvapi_Addr_eq _ _ e1
  replace hr := dV.elim hr; obtain ⟨v2, l3, y2, rfl, e2, hr⟩ := hr; obtain rfl := uvapi_Addr_eq _ _ e2
  replace hr := dFin hr; obtain ⟨rfl, rfl, x, h, rfl⟩ := hr
  obtain rfl := kinds_nil hc
  exact ⟨_, rfl, leads31 check_Of check_Set icmp_Message_may icmp_over icmp_side icmp_types octet_Put hS _ _ _ x h⟩
def icmp_Put : icmp_Message → api_Addr → api_Addr → Option ((List UInt8) × Int) := icmp_PutF check_Of check_Set icmp_Message_may icmp_over icmp_side icmp_types octet_Put
theorem lift31 : SumOK Try.prog 31 (s31 icmp_Put) := ok31 check_Of check_Set icmp_Message_may icmp_over icmp_side icmp_types octet_Put (SumsOK.of_tab ⟨lift64, lift65, lift88, lift87, lift90, lift89, lift62, trivial⟩)
def icmp_kind_s1 (icmp_fits : Int → Int → Bool → Option Bool) (icmp_side : Bool → Option Int) (typ : Int) (code : Int) (v6 : Bool) (t : Arr4_Arr2_Int) (t10 : Int) : Option (Sum Int Int) :=
  cond (decide (t10 < 4))
    (
    oreq (decide (0 ≤ t10 ∧ t10 < 4)) <|
    ([udp_Head.mk t.e0.e0 t.e0.e1, udp_Head.mk t.e1.e0 t.e1.e1, udp_Head.mk t.e2.e0 t.e2.e1, udp_Head.mk t.e3.e0 t.e3.e1][t10.toNat]?).bind fun (e : udp_Head) =>
    (icmp_side v6).bind fun s =>
    oreq (decide (0 ≤ s ∧ s < 2)) <|
    ([e.SPort, e.DPort][s.toNat]?).bind fun (e1 : Int) =>
    cond (e1 == typ)
      (
      (icmp_fits t10 code v6).bind fun f =>
      cond (f)
        (
        some (.inr (t10)))
        (
        some (.inl (wI .i64 (t10 + 1)))))
      (
      some (.inl (wI .i64 (t10 + 1)))))
    (
    some (.inr (4)))
def icmp_kindF (icmp_fits : Int → Int → Bool → Option Bool) (icmp_side : Bool → Option Int) (icmp_types : Option Arr4_Arr2_Int) (typ : Int) (code : Int) (v6 : Bool) : Option Int :=
  (icmp_types).bind fun t =>
  iter (fun st => icmp_kind_s1 icmp_fits icmp_side typ code v6 t st) FUEL 0
def rx95 (x : Int) : SRes := ⟨.int .i64 x, [], []⟩
def r95 (g : Int → Int → Bool → Option Int) : Dec := dV (asI .i64) fun (y0 : Int) => dV (asI .i64) fun (y1 : Int) => dV asB fun (y2 : Bool) => dEnd (ofG (g y0 y1 y2) rx95)
theorem r95_c {g : Int → Int → Bool → Option Int} {y0 : Int} {y1 : Int} {y2 : Bool} {x : Int} (hx : g y0 y1 y2 = some x) : r95 g [.int .i64 y0, .int .i64 y1, .bool y2] [] = some (rx95 x) := (dV_eq (asI_c _)).trans ((dV_eq (asI_c _)).trans ((dV_eq (asB_c)).trans (ofG_eq hx)))
def s95 (g : Int → Int → Bool → Option Int) : Summ := ⟨[.v, .v, .v], r95 g⟩
theorem r95_eq {g : Int → Int → Bool → Option Int} {y0 : Int} {y1 : Int} {y2 : Bool} {x : Int} (hx : g y0 y1 y2 = some x) : (s95 g).run [.int .i64 y0, .int .i64 y1, .bool y2] [] = some (rx95 x) := r95_c hx
abbrev sums95 (icmp_fits : Int → Int → Bool → Option Bool) (icmp_side : Bool → Option Int) (icmp_types : Option Arr4_Arr2_Int) : List (Nat × Summ) := [(122, s122 icmp_fits), (90, s90 icmp_side), (89, s89 icmp_types)]
def head95_1 (typ : Int) (code : Int) (v6 : Bool) (t : Arr4_Arr2_Int) (t10 : Int) : VM :=
  ⟨⟨95, 28, [(0, .int .i64 typ), (1, .int .i64 code), (2, .bool v6), (9, .agg ⟨[.int .i64 t.e0.e0, .int .i64 t.e0.e1, .int .i64 t.e1.e0, .int .i64 t.e1.e1, .int .i64 t.e2.e0, .int .i64 t.e2.e1, .int .i64 t.e3.e0, .int .i64 t.e3.e1]⟩), (10, .int .i64 t10)], [.code k95_15, .inLoop k95_15, .inBlock 0, .code k95_20], [], false, none⟩, [], [], 0⟩
theorem loop95_1 (icmp_fits : Int → Int → Bool → Option Bool) (icmp_side : Bool → Option Int) (icmp_types : Option Arr4_Arr2_Int) (hS : SumsOK Try.prog (aget (sums95 icmp_fits icmp_side icmp_types))) (typ : Int) (code : Int) (v6 : Bool) (t : Arr4_Arr2_Int) (res : Int) : ∀ fuel (st : Int) (o : Int), iter (fun st => icmp_kind_s1 icmp_fits icmp_side typ code v6 t st) fuel st = some o → (o = res) →
    Leads Try.prog 95 0 (head95_1 typ code v6 t st) (fun v H _ => Res 0 (rx95 res) v H) := by
  intro fuel st o h hc
  refine iter_leads (head := fun st => head95_1 typ code v6 t st) (C := fun o => (o = res)) ?_ fuel st o h hc
  clear h hc o st fuel
  intro t10 o h hc
  replace h : icmp_kind_s1 icmp_fits icmp_side typ code v6 t t10 = some o := h
  show Leads Try.prog 95 0 (head95_1 typ code v6 t t10) (fun v H _ => Res 0 (rx95 res) v H)
  unfold icmp_kind_s1 at h
  refine ev_ok tab_ok hS true 3000 ?_
  conv => whnf
  refine br.h2 h ?_ ?_ ?_
  · rfl
  · clear h; intro hb h; conv => whnf
    all_goals (cases h; cases hc; exact Res.z rfl rfl rfl)
  clear h; intro hb h; conv => whnf
  replace h := oreq.elim h; obtain ⟨hb, h⟩ := h
  replace h := obind.elim h; obtain ⟨e, hy, h⟩ := h
  refine ix_T (xs := [udp_Head.mk t.e0.e0 t.e0.e1, udp_Head.mk t.e1.e0 t.e1.e1, udp_Head.mk t.e2.e0 t.e2.e1, udp_Head.mk t.e3.e0 t.e3.e1]) cudp_Head_len hb hy rfl rfl ?_
  conv => whnf
  replace h := obind.elim h; obtain ⟨s, hy, h⟩ := h
  refine sumK.q rfl rfl (r90_eq hy) rfl rfl rfl ?_
  conv => whnf
  replace h := oreq.elim h; obtain ⟨hb, h⟩ := h
  first | (refine req.intro hb ?_; conv => whnf) | skip
  replace h := obind.elim h; obtain ⟨e1, hy, h⟩ := h
  refine rd.intro (rdlI hy (by first | rfl | (rw [Nat.zero_add, Nat.mul_one]; done) | omega)) ?_
  conv => whnf
  refine br.h2 h ?_ ?_ ?_
  · rfl
  · clear h; intro hb h; conv => whnf
    cases h; simp only [Sum.elim_inl, head95_1] at hc
    refine Leads.re hc [] rfl ?_ ?_ <;> (repeat' first | exact trivial | refine ⟨⟨_, rfl, rfl⟩, ?_⟩ | refine ⟨⟨_, _, rfl, rfl, .rowF (vI_flat _ _) id⟩, ?_⟩ | refine ⟨⟨_, _, rfl, rfl, .rowF (vS_flat _) id⟩, ?_⟩ | refine ⟨⟨_, _, rfl, rfl, .rowF (vB_flat _) id⟩, ?_⟩ | refine ⟨⟨_, _, rfl, rfl, .rowF (vT_flat (by first | exact cicmp_Message_flat | exact capi_Addr_flat | exact coctet_Reader_flat | exact cArr2_Int_flat | exact cArr4_Arr2_Int_flat | exact cruntime_errorAddressString_flat | exact cudp_Head_flat | exact cipsix_Head_flat | exact cipfour_Head_flat | exact capi_Tuple_flat | exact ctcp_Head_flat) _) id⟩, ?_⟩ | refine ⟨⟨_, _, rfl, rfl, .tyF (vI_flat _ _)⟩, ?_⟩ | refine ⟨⟨_, _, rfl, rfl, .ty rfl⟩, ?_⟩ | refine ⟨⟨_, _, rfl, rfl, .cells rfl⟩, ?_⟩ | refine ⟨⟨_, _, rfl, rfl, .row rfl id⟩, ?_⟩ | refine ⟨⟨_, _, rfl, rfl, .cr rfl⟩, ?_⟩ | refine ⟨⟨_, _, rfl, rfl, .rc rfl⟩, ?_⟩ | refine ⟨⟨_, _, rfl, rfl, .marks⟩, ?_⟩ | refine ⟨⟨_, _, rfl, rfl, .siter _ _⟩, ?_⟩ | refine ⟨⟨_, _, rfl, rfl, .loop rfl rfl rfl rfl (by repeat' first | exact trivial | refine ⟨rfl, ?_⟩) rfl rfl rfl rfl⟩, ?_⟩)
  clear h; intro hb h; conv => whnf
  replace h := obind.elim h; obtain ⟨f, hy, h⟩ := h
  refine sumK.q rfl rfl (r122_eq hy) rfl rfl rfl ?_
  conv => whnf
  refine br.h h ?_ ?_ ?_
  · rfl
  · clear h; intro hb h; conv => whnf
    all_goals (cases h; cases hc; exact Res.z rfl rfl rfl)
  clear h; intro hb h; conv => whnf
  cases h; simp only [Sum.elim_inl, head95_1] at hc
  refine Leads.re hc [] rfl ?_ ?_ <;> (repeat' first | exact trivial | refine ⟨⟨_, rfl, rfl⟩, ?_⟩ | refine ⟨⟨_, _, rfl, rfl, .rowF (vI_flat _ _) id⟩, ?_⟩ | refine ⟨⟨_, _, rfl, rfl, .rowF (vS_flat _) id⟩, ?_⟩ | refine ⟨⟨_, _, rfl, rfl, .rowF (vB_flat _) id⟩, ?_⟩ | refine ⟨⟨_, _, rfl, rfl, .rowF (vT_flat (by first | exact cicmp_Message_flat | exact capi_Addr_flat | exact coctet_Reader_flat | exact cArr2_Int_flat | exact cArr4_Arr2_Int_flat | exact cruntime_errorAddressString_flat | exact cudp_Head_flat | exact cipsix_Head_flat | exact cipfour_Head_flat | exact capi_Tuple_flat | exact ctcp_Head_flat) _) id⟩, ?_⟩ | refine ⟨⟨_, _, rfl, rfl, .tyF (vI_flat _ _)⟩, ?_⟩ | refine ⟨⟨_, _, rfl, rfl, .ty rfl⟩, ?_⟩ | refine ⟨⟨_, _, rfl, rfl, .cells rfl⟩, ?_⟩ | refine ⟨⟨_, _, rfl, rfl, .row rfl id⟩, ?_⟩ | refine ⟨⟨_, _, rfl, rfl, .cr rfl⟩, ?_⟩ | refine ⟨⟨_, _, rfl, rfl, .rc rfl⟩, ?_⟩ | refine ⟨⟨_, _, rfl, rfl, .marks⟩, ?_⟩ | refine ⟨⟨_, _, rfl, rfl, .siter _ _⟩, ?_⟩ | refine ⟨⟨_, _, rfl, rfl, .loop rfl rfl rfl rfl (by repeat' first | exact trivial | refine ⟨rfl, ?_⟩) rfl rfl rfl rfl⟩, ?_⟩)
theorem leads95 (icmp_fits : Int → Int → Bool → Option Bool) (icmp_side : Bool → Option Int) (icmp_types : Option Arr4_Arr2_Int) (hS : SumsOK Try.prog (aget (sums95 icmp_fits icmp_side icmp_types))) (typ : Int) (code : Int) (v6 : Bool) (res : Int) (h : icmp_kindF icmp_fits icmp_side icmp_types typ code v6 = some res) :
    Leads Try.prog 95 0 ⟨⟨95, 28, [(0, .int .i64 typ), (1, .int .i64 code), (2, .bool v6)], [.code k95_22], [], false, none⟩, [], [], 0⟩ (fun v H _ => Res 0 (rx95 res) v H) := by
  unfold icmp_kindF at h
  refine ev_ok tab_ok hS true 3000 ?_
  conv => whnf
  replace h := obind.elim h; obtain ⟨t, hy, h⟩ := h
  refine sumK.q rfl rfl (r89_eq hy) rfl rfl rfl ?_
  conv => whnf
  have hl := loop95_1 icmp_fits icmp_side icmp_types hS _ _ _ _ res _ _ _ h rfl; simp only [head95_1] at hl
  refine Leads.re hl [] rfl ?_ ?_ <;> (repeat' first | exact trivial | refine ⟨⟨_, rfl, rfl⟩, ?_⟩ | refine ⟨⟨_, _, rfl, rfl, .rowF (vI_flat _ _) id⟩, ?_⟩ | refine ⟨⟨_, _, rfl, rfl, .rowF (vS_flat _) id⟩, ?_⟩ | refine ⟨⟨_, _, rfl, rfl, .rowF (vB_flat _) id⟩, ?_⟩ | refine ⟨⟨_, _, rfl, rfl, .rowF (vT_flat (by first | exact cicmp_Message_flat | exact capi_Addr_flat | exact coctet_Reader_flat | exact cArr2_Int_flat | exact cArr4_Arr2_Int_flat | exact cruntime_errorAddressString_flat | exact cudp_Head_flat | exact cipsix_Head_flat | exact cipfour_Head_flat | exact capi_Tuple_flat | exact ctcp_Head_flat) _) id⟩, ?_⟩ | refine ⟨⟨_, _, rfl, rfl, .tyF (vI_flat _ _)⟩, ?_⟩ | refine ⟨⟨_, _, rfl, rfl, .ty rfl⟩, ?_⟩ | refine ⟨⟨_, _, rfl, rfl, .cells rfl⟩, ?_⟩ | refine ⟨⟨_, _, rfl, rfl, .row rfl id⟩, ?_⟩ | refine ⟨⟨_, _, rfl, rfl, .cr rfl⟩, ?_⟩ | refine ⟨⟨_, _, rfl, rfl, .rc rfl⟩, ?_⟩ | refine ⟨⟨_, _, rfl, rfl, .marks⟩, ?_⟩ | refine ⟨⟨_, _, rfl, rfl, .siter _ _⟩, ?_⟩ | refine ⟨⟨_, _, rfl, rfl, .loop rfl rfl rfl rfl (by repeat' first | exact trivial | refine ⟨rfl, ?_⟩) rfl rfl rfl rfl⟩, ?_⟩)
theorem ok95 (icmp_fits : Int → Int → Bool → Option Bool) (icmp_side : Bool → Option Int) (icmp_types : Option Arr4_Arr2_Int) (hS : SumsOK Try.prog (aget (sums95 icmp_fits icmp_side icmp_types))) : SumOK Try.prog 95 (s95 (icmp_kindF icmp_fits icmp_side icmp_types)) := by
  refine SumOK.of_leads tab_ok (fun ar os r ha hr => ?_) ⟨Try.f95, rfl, by decide, rfl⟩
  replace hr : r95 (icmp_kindF icmp_fits icmp_side icmp_types) ar (conts os) = some r := hr
  unfold r95 at hr
  generalize hc : conts os = C at hr
  replace hr := dV.elim hr; obtain ⟨v0, l1, y0, rfl, e0, hr⟩ := hr; obtain rfl := asI_eq _ _ _ e0
  replace hr := dV.elim hr; obtain ⟨v1, l2, y1, rfl, e1, hr⟩ := hr; obtain rfl := asI_eq _ _ _ e1
  replace hr := dV.elim hr; obtain ⟨v2, l3, y2, rfl, e2, hr⟩ := hr; obtain rfl := asB_eq _ _ e2
  replace hr := dFin hr; obtain ⟨rfl, rfl, x, h, rfl⟩ := hr
  obtain rfl := kinds_nil hc
  exact ⟨_, rfl, leads95 icmp_fits icmp_side icmp_types hS _ _ _ x h⟩
def icmp_kind : Int → Int → Bool → Option Int := icmp_kindF icmp_fits icmp_side icmp_types
theorem lift95 : SumOK Try.prog 95 (s95 icmp_kind) := ok95 icmp_fits icmp_side icmp_types (SumsOK.of_tab ⟨lift122, lift90, lift89, trivial⟩)
def octet_Reader_RestF (octet_Reader_Bad : octet_Reader → Option (Bool × octet_Reader)) (octet_Reader_Text : octet_Reader → Int → Option ((List UInt8) × octet_Reader)) (ra0 : octet_Reader) : Option ((List UInt8) × octet_Reader) :=
  (octet_Reader_Bad ra0).bind fun b =>
  cond (b.1)
    (
    some (([], b.2)))
    (
    (octet_Reader_Text b.2 (b.2.s.length : Int)).bind fun t =>
    some ((t.1, t.2)))
def rx96 (x : (List UInt8) × octet_Reader) : SRes := ⟨.string ⟨⟨x.1⟩⟩, [], [some [.string ⟨⟨x.2.s⟩⟩, .bool x.2.made, .bool x.2.bad]]⟩
def r96 (g : octet_Reader → Option ((List UInt8) × octet_Reader)) : Dec := dPt 0 unoctet_Reader fun (y0 : octet_Reader) => dEnd (ofG (g y0) rx96)
theorem r96_c {g : octet_Reader → Option ((List UInt8) × octet_Reader)} {y0 : octet_Reader} {x : (List UInt8) × octet_Reader} (hx : g y0 = some x) : r96 g [.pointer (some ⟨0, 0, none⟩)] [some [.string ⟨⟨y0.s⟩⟩, .bool y0.made, .bool y0.bad]] = some (rx96 x) := (dPt_eq (unoctet_Reader_c _)).trans (ofG_eq hx)
def s96 (g : octet_Reader → Option ((List UInt8) × octet_Reader)) : Summ := ⟨[.pt 3], r96 g⟩
theorem r96_eq {g : octet_Reader → Option ((List UInt8) × octet_Reader)} {y0 : octet_Reader} {x : (List UInt8) × octet_Reader} (hx : g y0 = some x) : (s96 g).run [.pointer (some ⟨0, 0, none⟩)] [some [.string ⟨⟨y0.s⟩⟩, .bool y0.made, .bool y0.bad]] = some (rx96 x) := r96_c hx
abbrev sums96 (octet_Reader_Bad : octet_Reader → Option (Bool × octet_Reader)) (octet_Reader_Text : octet_Reader → Int → Option ((List UInt8) × octet_Reader)) : List (Nat × Summ) := [(72, s72 octet_Reader_Bad), (83, s83 octet_Reader_Text)]
theorem leads96 (octet_Reader_Bad : octet_Reader → Option (Bool × octet_Reader)) (octet_Reader_Text : octet_Reader → Int → Option ((List UInt8) × octet_Reader)) (hS : SumsOK Try.prog (aget (sums96 octet_Reader_Bad octet_Reader_Text))) (ra0 : octet_Reader) (res : (List UInt8) × octet_Reader) (h : octet_Reader_RestF octet_Reader_Bad octet_Reader_Text ra0 = some res) :
    Leads Try.prog 96 1 ⟨⟨96, 12, [(0, .pointer (some ⟨0, 0, none⟩))], [.code k96_9], [], false, none⟩, [], [(0, .cells [.string ⟨⟨ra0.s⟩⟩, .bool ra0.made, .bool ra0.bad])], 1⟩ (fun v H _ => Res 1 (rx96 res) v H) := by
  unfold octet_Reader_RestF at h
  refine ev_ok tab_ok hS true 3000 ?_
  conv => whnf
  replace h := obind.elim h; obtain ⟨b, hy, h⟩ := h
  refine sumK.introF [0] (sumRun_of (aqs := [.pointer (some ⟨0, 0, none⟩)]) (ws := [.win 0 0 3 true]) (n := 0) (m := 0) (t' := 1) (ra_cons rfl rfl ra_nil) rfl (by rfl) (r72_eq hy) rfl rfl rfl rfl (wb_win rfl rfl rfl ⟨rfl, Nat.le_of_ble_eq_true rfl⟩ rfl rfl wb_nil) an_nil rfl) ?_
  conv => whnf
  refine br.h h ?_ ?_ ?_
  · rfl
  · clear h; intro hb h; conv => whnf
    all_goals (cases h)
    all_goals exact Res.of [] rfl nw_0 (by decide) js_0 (wr_s (rfl) (hs_cells rfl) wr_0)
  clear h; intro hb h; conv => whnf
  replace h := obind.elim h; obtain ⟨t, hy, h⟩ := h
  refine sumK.introF [0] (sumRun_of (aqs := [.pointer (some ⟨0, 0, none⟩), .int .i64 (b.2.s.length : Int)]) (ws := [.win 0 0 3 true]) (n := 0) (m := 0) (t' := 1) (ra_cons rfl rfl (ra_cons rfl rfl ra_nil)) rfl (by rfl) (r83_eq hy) rfl rfl rfl rfl (wb_win rfl rfl rfl ⟨rfl, Nat.le_of_ble_eq_true rfl⟩ rfl rfl wb_nil) an_nil rfl) ?_
  conv => whnf
  all_goals (cases h)
  all_goals exact Res.of [] rfl nw_0 (by decide) js_0 (wr_s (rfl) (hs_cells rfl) wr_0)
theorem ok96 (octet_Reader_Bad : octet_Reader → Option (Bool × octet_Reader)) (octet_Reader_Text : octet_Reader → Int → Option ((List UInt8) × octet_Reader)) (hS : SumsOK Try.prog (aget (sums96 octet_Reader_Bad octet_Reader_Text))) : SumOK Try.prog 96 (s96 (octet_Reader_RestF octet_Reader_Bad octet_Reader_Text)) := by
  refine SumOK.of_leads tab_ok (fun ar os r ha hr => ?_) ⟨Try.f96, rfl, by decide, rfl⟩
  replace hr : r96 (octet_Reader_RestF octet_Reader_Bad octet_Reader_Text) ar (conts os) = some r := hr
  unfold r96 at hr
  generalize hc : conts os = C at hr
  have hq := dPt.elim hr; clear hr; obtain ⟨c0, l1, C, y0, rfl, rfl, e0, hr⟩ := hq; obtain rfl := unoctet_Reader_eq _ _ e0
  replace hr := dFin hr; obtain ⟨rfl, rfl, x, h, rfl⟩ := hr
  obtain ⟨os, rfl, ha, hc⟩ := kinds_some ha hc
  obtain rfl := kinds_nil hc
  exact ⟨_, rfl, leads96 octet_Reader_Bad octet_Reader_Text hS _ x h⟩
def octet_Reader_Rest : octet_Reader → Option ((List UInt8) × octet_Reader) := octet_Reader_RestF octet_Reader_Bad octet_Reader_Text
theorem lift96 : SumOK Try.prog 96 (s96 octet_Reader_Rest) := ok96 octet_Reader_Bad octet_Reader_Text (SumsOK.of_tab ⟨lift72, lift83, trivial⟩)
def icmp_GetF (check_Right : (List UInt8) → Option Bool) (icmp_kind : Int → Int → Bool → Option Int) (icmp_over : api_Addr → api_Addr → Int → Option ((List UInt8) × Bool)) (octet_New : (List UInt8) → Option octet_Reader) (octet_Reader_Num : octet_Reader → Int → Option (Int × octet_Reader)) (octet_Reader_Rest : octet_Reader → Option ((List UInt8) × octet_Reader)) (s : List UInt8) (src : api_Addr) (dst : api_Addr) : Option (icmp_Message × Int) :=
  cond (decide ((s.length : Int) < 8))
    (
    some ((icmp_Message.mk 0 0 0 [], 2)))
    (
    (icmp_over src dst (s.length : Int)).bind fun xo =>
    cond (!xo.2)
      (
      some ((icmp_Message.mk 0 0 0 [], 1)))
      (
      oreq (decide (xo.1.length + s.length < 2 ^ 63)) <|
      (check_Right (xo.1 ++ s)).bind fun xr =>
      cond (!xr)
        (
        some ((icmp_Message.mk 0 0 0 [], 4)))
        (
        cond (decide ((s.length : Int) > 1240))
          (
          some ((icmp_Message.mk 0 0 0 [], 5)))
          (
          (octet_New s).bind fun n =>
          (octet_Reader_Num n 1).bind fun n1 =>
          (octet_Reader_Num n1.2 1).bind fun n2 =>
          (octet_Reader_Num n2.2 4).bind fun n3 =>
          (icmp_kind n1.1 n2.1 src.V6).bind fun k =>
          (octet_Reader_Num n3.2 2).bind fun n4 =>
          cond (k == 2)
            (
            (octet_Reader_Rest n4.2).bind fun xr1 =>
            some ((icmp_Message.mk k n2.1 n4.1 xr1.1, 0)))
            (
            (octet_Reader_Rest n4.2).bind fun xr2 =>
            some ((icmp_Message.mk k n2.1 0 xr2.1, 0)))))))
def rx34 (x : icmp_Message × Int) : SRes := ⟨.tuple ⟨[.agg ⟨[.int .i64 x.1.Kind, .int .i64 x.1.Code, .int .i64 x.1.MTU, .string ⟨⟨x.1.Quote⟩⟩]⟩, .int .i64 x.2]⟩, [], []⟩
def r34 (g : (List UInt8) → api_Addr → api_Addr → Option (icmp_Message × Int)) : Dec := dV asS fun (y0 : List UInt8) => dV uvapi_Addr fun (y1 : api_Addr) => dV uvapi_Addr fun (y2 : api_Addr) => dEnd (ofG (g y0 y1 y2) rx34)
theorem r34_c {g : (List UInt8) → api_Addr → api_Addr → Option (icmp_Message × Int)} {y0 : List UInt8} {y1 : api_Addr} {y2 : api_Addr} {x : icmp_Message × Int} (hx : g y0 y1 y2 = some x) : r34 g [.string ⟨⟨y0⟩⟩, .agg ⟨[.bool y1.V6, .int .u64 y1.Hi, .int .u64 y1.Lo]⟩, .agg ⟨[.bool y2.V6, .int .u64 y2.Hi, .int .u64 y2.Lo]⟩] [] = some (rx34 x) := (dV_eq (asS_c)).trans ((dV_eq (uvapi_Addr_c _)).trans ((dV_eq (uvapi_Addr_c _)).trans (ofG_eq hx)))
def s34 (g : (List UInt8) → api_Addr → api_Addr → Option (icmp_Message × Int)) : Summ := ⟨[.v, .v, .v], r34 g⟩
theorem r34_eq {g : (List UInt8) → api_Addr → api_Addr → Option (icmp_Message × Int)} {y0 : List UInt8} {y1 : api_Addr} {y2 : api_Addr} {x : icmp_Message × Int} (hx : g y0 y1 y2 = some x) : (s34 g).run [.string ⟨⟨y0⟩⟩, .agg ⟨[.bool y1.V6, .int .u64 y1.Hi, .int .u64 y1.Lo]⟩, .agg ⟨[.bool y2.V6, .int .u64 y2.Hi, .int .u64 y2.Lo]⟩] [] = some (rx34 x) := r34_c hx
abbrev sums34 (check_Right : (List UInt8) → Option Bool) (icmp_kind : Int → Int → Bool → Option Int) (icmp_over : api_Addr → api_Addr → Int → Option ((List UInt8) × Bool)) (octet_New : (List UInt8) → Option octet_Reader) (octet_Reader_Num : octet_Reader → Int → Option (Int × octet_Reader)) (octet_Reader_Rest : octet_Reader → Option ((List UInt8) × octet_Reader)) : List (Nat × Summ) := [(73, s73 check_Right), (95, s95 icmp_kind), (87, s87 icmp_over), (70, s70 octet_New), (71, s71 octet_Reader_Num), (96, s96 octet_Reader_Rest)]
theorem leads34 (check_Right : (List UInt8) → Option Bool) (icmp_kind : Int → Int → Bool → Option Int) (icmp_over : api_Addr → api_Addr → Int → Option ((List UInt8) × Bool)) (octet_New : (List UInt8) → Option octet_Reader) (octet_Reader_Num : octet_Reader → Int → Option (Int × octet_Reader)) (octet_Reader_Rest : octet_Reader → Option ((List UInt8) × octet_Reader)) (hS : SumsOK Try.prog (aget (sums34 check_Right icmp_kind icmp_over octet_New octet_Reader_Num octet_Reader_Rest))) (s : List UInt8) (src : api_Addr) (dst : api_Addr) (res : icmp_Message × Int) (h : icmp_GetF check_Right icmp_kind icmp_over octet_New octet_Reader_Num octet_Reader_Rest s src dst = some res) :
    Leads Try.prog 34 0 ⟨⟨34, 69, [(0, .string ⟨⟨s⟩⟩), (1, .agg ⟨[.bool src.V6, .int .u64 src.Hi, .int .u64 src.Lo]⟩), (2, .agg ⟨[.bool dst.V6, .int .u64 dst.Hi, .int .u64 dst.Lo]⟩)], [.code k34_45], [], false, none⟩, [], [], 0⟩ (fun v H _ => Res 0 (rx34 res) v H) := by
  unfold icmp_GetF at h
  refine ev_ok tab_ok hS true 3000 ?_
  conv => whnf
  refine br.h h ?_ ?_ ?_
  · rfl
  · clear h; intro hb h; conv => whnf
    all_goals (cases h; exact Res.z rfl rfl rfl)
  clear h; intro hb h; conv => whnf
  replace h := obind.elim h; obtain ⟨xo, hy, h⟩ := h
  refine sumK.q rfl rfl (r87_eq hy) rfl rfl rfl ?_
  conv => whnf
  refine br.h h ?_ ?_ ?_
  · rfl
  · clear h; intro hb h; conv => whnf
    all_goals (cases h; exact Res.z rfl rfl rfl)
  clear h; intro hb h; conv => whnf
  replace h := oreq.elim h; obtain ⟨hb, h⟩ := h
  first | (refine req.intro hb ?_; conv => whnf) | skip
  replace h := obind.elim h; obtain ⟨xr, hy, h⟩ := h
  refine sumK.q rfl rfl (r73_eq hy) rfl rfl rfl ?_
  conv => whnf
  refine br.h h ?_ ?_ ?_
  · rfl
  · clear h; intro hb h; conv => whnf
    all_goals (cases h; exact Res.z rfl rfl rfl)
  clear h; intro hb h; conv => whnf
  refine br.h h ?_ ?_ ?_
  · rfl
  · clear h; intro hb h; conv => whnf
    all_goals (cases h; exact Res.z rfl rfl rfl)
  clear h; intro hb h; conv => whnf
  replace h := obind.elim h; obtain ⟨n, hy, h⟩ := h
  refine sumK.introF [3] (sumRun_of (aqs := [.string ⟨⟨s⟩⟩]) (ws := []) (n := 1) (m := 0) (t' := 4) (ra_cons rfl rfl ra_nil) rfl (by rfl) (r70_eq hy) rfl rfl rfl rfl wb_nil (an_cons (rfl) an_nil) rfl) ?_
  conv => whnf
  replace h := obind.elim h; obtain ⟨n1, hy, h⟩ := h
  refine sumK.introF [3] (sumRun_of (aqs := [.pointer (some ⟨0, 0, none⟩), .int .i64 1]) (ws := [.win 3 0 3 true]) (n := 0) (m := 0) (t' := 4) (ra_cons rfl rfl (ra_cons rfl rfl ra_nil)) rfl (by rfl) (r71_eq hy) rfl rfl rfl rfl (wb_win rfl rfl rfl ⟨rfl, Nat.le_of_ble_eq_true rfl⟩ rfl rfl wb_nil) an_nil rfl) ?_
  conv => whnf
  replace h := obind.elim h; obtain ⟨n2, hy, h⟩ := h
  refine sumK.introF [3] (sumRun_of (aqs := [.pointer (some ⟨0, 0, none⟩), .int .i64 1]) (ws := [.win 3 0 3 true]) (n := 0) (m := 0) (t' := 4) (ra_cons rfl rfl (ra_cons rfl rfl ra_nil)) rfl (by rfl) (r71_eq hy) rfl rfl rfl rfl (wb_win rfl rfl rfl ⟨rfl, Nat.le_of_ble_eq_true rfl⟩ rfl rfl wb_nil) an_nil rfl) ?_
  conv => whnf
  replace h := obind.elim h; obtain ⟨n3, hy, h⟩ := h
  refine sumK.introF [3] (sumRun_of (aqs := [.pointer (some ⟨0, 0, none⟩), .int .i64 4]) (ws := [.win 3 0 3 true]) (n := 0) (m := 0) (t' := 4) (ra_cons rfl rfl (ra_cons rfl rfl ra_nil)) rfl (by rfl) (r71_eq hy) rfl rfl rfl rfl (wb_win rfl rfl rfl ⟨rfl, Nat.le_of_ble_eq_true rfl⟩ rfl rfl wb_nil) an_nil rfl) ?_
  conv => whnf
  replace h := obind.elim h; obtain ⟨k, hy, h⟩ := h
  refine sumK.q rfl rfl (r95_eq hy) rfl rfl rfl ?_
  conv => whnf
  replace h := obind.elim h; obtain ⟨n4, hy, h⟩ := h
  refine sumK.introF [3] (sumRun_of (aqs := [.pointer (some ⟨0, 0, none⟩), .int .i64 2]) (ws := [.win 3 0 3 true]) (n := 0) (m := 0) (t' := 5) (ra_cons rfl rfl (ra_cons rfl rfl ra_nil)) rfl (by rfl) (r71_eq hy) rfl rfl rfl rfl (wb_win rfl rfl rfl ⟨rfl, Nat.le_of_ble_eq_true rfl⟩ rfl rfl wb_nil) an_nil rfl) ?_
  conv => whnf
  refine br.h h ?_ ?_ ?_
  · rfl
  · clear h; intro hb h; conv => whnf
    replace h := obind.elim h; obtain ⟨xr1, hy, h⟩ := h
    refine sumK.introF [3] (sumRun_of (aqs := [.pointer (some ⟨0, 0, none⟩)]) (ws := [.win 3 0 3 true]) (n := 0) (m := 0) (t' := 5) (ra_cons rfl rfl ra_nil) rfl (by rfl) (r96_eq hy) rfl rfl rfl rfl (wb_win rfl rfl rfl ⟨rfl, Nat.le_of_ble_eq_true rfl⟩ rfl rfl wb_nil) an_nil rfl) ?_
    conv => whnf
    all_goals (cases h; exact Res.z rfl rfl rfl)
  clear h; intro hb h; conv => whnf
  replace h := obind.elim h; obtain ⟨xr2, hy, h⟩ := h
  refine sumK.introF [3] (sumRun_of (aqs := [.pointer (some ⟨0, 0, none⟩)]) (ws := [.win 3 0 3 true]) (n := 0) (m := 0) (t' := 5) (ra_cons rfl rfl ra_nil) rfl (by rfl) (r96_eq hy) rfl rfl rfl rfl (wb_win rfl rfl rfl ⟨rfl, Nat.le_of_ble_eq_true rfl⟩ rfl rfl wb_nil) an_nil rfl) ?_
  conv => whnf
  all_goals (cases h; exact Res.z rfl rfl rfl)
theorem ok34 (check_Right : (List UInt8) → Option Bool) (icmp_kind : Int → Int → Bool → Option Int) (icmp_over : api_Addr → api_Addr → Int → Option ((List UInt8) × Bool)) (octet_New : (List UInt8) → Option octet_Reader) (octet_Reader_Num : octet_Reader → Int → Option (Int × octet_Reader)) (octet_Reader_Rest : octet_Reader → Option ((List UInt8) × octet_Reader)) (hS : SumsOK Try.prog (aget (sums34 check_Right icmp_kind icmp_over octet_New octet_Reader_Num octet_Reader_Rest))) : SumOK Try.prog 34 (s34 (icmp_GetF check_Right icmp_kind icmp_over octet_New octet_Reader_Num octet_Reader_Rest)) := by
  refine SumOK.of_leads tab_ok (fun ar os r ha hr => ?_) ⟨Try.f34, rfl, by decide, rfl⟩
  replace hr : r34 (icmp_GetF check_Right icmp_kind icmp_over octet_New octet_Reader_Num octet_Reader_Rest) ar (conts os) = some r := hr
  unfold r34 at hr
  generalize hc : conts os = C at hr
  replace hr := dV.elim hr; obtain ⟨v0, l1, y0, rfl, e0, hr⟩ := hr; obtain rfl := asS_eq _ _ e0
  replace hr := dV.elim hr; obtain ⟨v1, l2, y1, rfl, e1, hr⟩ := hr; obtain rfl := uvapi_Addr_eq _ _ e1
  replace hr := dV.elim hr; obtain ⟨v2, l3, y2, rfl, e2, hr⟩ := hr; obtain rfl := uvapi_Addr_eq _ _ e2
  replace hr := dFin hr; obtain ⟨rfl, rfl, x, h, rfl⟩ := hr
  obtain rfl := kinds_nil hc
  exact ⟨_, rfl, leads34 check_Right icmp_kind icmp_over octet_New octet_Reader_Num octet_Reader_Rest hS _ _ _ x h⟩
def icmp_Get : (List UInt8) → api_Addr → api_Addr → Option (icmp_Message × Int) := icmp_GetF check_Right icmp_kind icmp_over octet_New octet_Reader_Num octet_Reader_Rest
theorem lift34 : SumOK Try.prog 34 (s34 icmp_Get) := ok34 check_Right icmp_kind icmp_over octet_New octet_Reader_Num octet_Reader_Rest (SumsOK.of_tab ⟨lift73, lift95, lift87, lift70, lift71, lift96, trivial⟩)
def R53_pairF (R05_Pseudo : api_Addr → api_Addr → Int → Int → Option (List UInt8)) (src : api_Addr) (dst : api_Addr) : Option Bool :=
  (R05_Pseudo src dst 1 8).bind fun p =>
  some (!(p == []))
def rx91 (x : Bool) : SRes := ⟨.bool x, [], []⟩
def r91 (g : api_Addr → api_Addr → Option Bool) : Dec := dV uvapi_Addr fun (y0 : api_Addr) => dV uvapi_Addr fun (y1 : api_Addr) => dEnd (ofG (g y0 y1) rx91)
theorem r91_c {g : api_Addr → api_Addr → Option Bool} {y0 : api_Addr} {y1 : api_Addr} {x : Bool} (hx : g y0 y1 = some x) : r91 g [.agg ⟨[.bool y0.V6, .int .u64 y0.Hi, .int .u64 y0.Lo]⟩, .agg ⟨[.bool y1.V6, .int .u64 y1.Hi, .int .u64 y1.Lo]⟩] [] = some (rx91 x) := (dV_eq (uvapi_Addr_c _)).trans ((dV_eq (uvapi_Addr_c _)).trans (ofG_eq hx))
def s91 (g : api_Addr → api_Addr → Option Bool) : Summ := ⟨[.v, .v], r91 g⟩
theorem r91_eq {g : api_Addr → api_Addr → Option Bool} {y0 : api_Addr} {y1 : api_Addr} {x : Bool} (hx : g y0 y1 = some x) : (s91 g).run [.agg ⟨[.bool y0.V6, .int .u64 y0.Hi, .int .u64 y0.Lo]⟩, .agg ⟨[.bool y1.V6, .int .u64 y1.Hi, .int .u64 y1.Lo]⟩] [] = some (rx91 x) := r91_c hx
abbrev sums91 (R05_Pseudo : api_Addr → api_Addr → Int → Int → Option (List UInt8)) : List (Nat × Summ) := [(28, s28 R05_Pseudo)]
theorem leads91 (R05_Pseudo : api_Addr → api_Addr → Int → Int → Option (List UInt8)) (hS : SumsOK Try.prog (aget (sums91 R05_Pseudo))) (src : api_Addr) (dst : api_Addr) (res : Bool) (h : R53_pairF R05_Pseudo src dst = some res) :
    Leads Try.prog 91 0 ⟨⟨91, 9, [(0, .agg ⟨[.bool src.V6, .int .u64 src.Hi, .int .u64 src.Lo]⟩), (1, .agg ⟨[.bool dst.V6, .int .u64 dst.Hi, .int .u64 dst.Lo]⟩)], [.code k91_3], [], false, none⟩, [], [], 0⟩ (fun v H _ => Res 0 (rx91 res) v H) := by
  unfold R53_pairF at h
  refine ev_ok tab_ok hS true 3000 ?_
  conv => whnf
  replace h := obind.elim h; obtain ⟨p, hy, h⟩ := h
  refine sumK.q rfl rfl (r28_eq hy) rfl rfl rfl ?_
  conv => whnf
  all_goals (cases h; exact Res.z rfl rfl rfl)
theorem ok91 (R05_Pseudo : api_Addr → api_Addr → Int → Int → Option (List UInt8)) (hS : SumsOK Try.prog (aget (sums91 R05_Pseudo))) : SumOK Try.prog 91 (s91 (R53_pairF R05_Pseudo)) := by
  refine SumOK.of_leads tab_ok (fun ar os r ha hr => ?_) ⟨Try.f91, rfl, by decide, rfl⟩
  replace hr : r91 (R53_pairF R05_Pseudo) ar (conts os) = some r := hr
  unfold r91 at hr
  generalize hc : conts os = C at hr
  replace hr := dV.elim hr; obtain ⟨v0, l1, y0, rfl, e0, hr⟩ := hr; obtain rfl := uvapi_Addr_eq _ _ e0
  replace hr := dV.elim hr; obtain ⟨v1, l2, y1, rfl, e1, hr⟩ := hr; obtain rfl := uvapi_Addr_eq _ _ e1
  replace hr := dFin hr; obtain ⟨rfl, rfl, x, h, rfl⟩ := hr
  obtain rfl := kinds_nil hc
  exact ⟨_, rfl, leads91 R05_Pseudo hS _ _ x h⟩
def R53_pair : api_Addr → api_Addr → Option Bool := R53_pairF R05_Pseudo
theorem lift91 : SumOK Try.prog 91 (s91 R53_pair) := ok91 R05_Pseudo (SumsOK.of_tab ⟨lift28, trivial⟩)
def R53_rightF (m : icmp_Message) (six : Bool) : Option Bool :=
  cond (decide (m.Kind < 1))
    (
    some (false))
    (
    cond (decide (m.Kind > 3))
      (
      some (false))
      (
      cond (decide (m.Code < 0))
        (
        some (false))
        (
        cond (decide (m.Code > 255))
          (
          some (false))
          (
          cond (decide (m.MTU < 0))
            (
            some (false))
            (
            cond (decide (m.MTU > 65535))
              (
              some (false))
              (
              cond (m.Kind != 2)
                (
                cond (m.MTU != 0)
                  (
                  some (false))
                  (
                  cond (decide ((m.Quote.length : Int) > 1232))
                    (
                    some (false))
                    (
                    cond (six)
                      (
                      some (true))
                      (
                      cond (m.Kind == 3)
                        (
                        some (true))
                        (
                        some ((m.Kind == 2) == (m.Code == 4)))))))
                (
                cond (decide ((m.Quote.length : Int) > 1232))
                  (
                  some (false))
                  (
                  cond (six)
                    (
                    some (m.Code == 0))
                    (
                    cond (m.Kind == 3)
                      (
                      some (true))
                      (
                      some ((m.Kind == 2) == (m.Code == 4))))))))))))
def rx92 (x : Bool) : SRes := ⟨.bool x, [], []⟩
def r92 (g : icmp_Message → Bool → Option Bool) : Dec := dV uvicmp_Message fun (y0 : icmp_Message) => dV asB fun (y1 : Bool) => dEnd (ofG (g y0 y1) rx92)
theorem r92_c {g : icmp_Message → Bool → Option Bool} {y0 : icmp_Message} {y1 : Bool} {x : Bool} (hx : g y0 y1 = some x) : r92 g [.agg ⟨[.int .i64 y0.Kind, .int .i64 y0.Code, .int .i64 y0.MTU, .string ⟨⟨y0.Quote⟩⟩]⟩, .bool y1] [] = some (rx92 x) := (dV_eq (uvicmp_Message_c _)).trans ((dV_eq (asB_c)).trans (ofG_eq hx))
def s92 (g : icmp_Message → Bool → Option Bool) : Summ := ⟨[.v, .v], r92 g⟩
theorem r92_eq {g : icmp_Message → Bool → Option Bool} {y0 : icmp_Message} {y1 : Bool} {x : Bool} (hx : g y0 y1 = some x) : (s92 g).run [.agg ⟨[.int .i64 y0.Kind, .int .i64 y0.Code, .int .i64 y0.MTU, .string ⟨⟨y0.Quote⟩⟩]⟩, .bool y1] [] = some (rx92 x) := r92_c hx
abbrev sums92 : List (Nat × Summ) := []
theorem leads92 (hS : SumsOK Try.prog (aget (sums92))) (m : icmp_Message) (six : Bool) (res : Bool) (h : R53_rightF m six = some res) :
    Leads Try.prog 92 0 ⟨⟨92, 70, [(0, .agg ⟨[.int .i64 m.Kind, .int .i64 m.Code, .int .i64 m.MTU, .string ⟨⟨m.Quote⟩⟩]⟩), (1, .bool six)], [.code k92_15], [], false, none⟩, [], [], 0⟩ (fun v H _ => Res 0 (rx92 res) v H) := by
  unfold R53_rightF at h
  refine ev_ok tab_ok hS true 3000 ?_
  conv => whnf
  refine br.h h ?_ ?_ ?_
  · rfl
  · clear h; intro hb h; conv => whnf
    all_goals (cases h; exact Res.z rfl rfl rfl)
  clear h; intro hb h; conv => whnf
  refine br.h h ?_ ?_ ?_
  · rfl
  · clear h; intro hb h; conv => whnf
    all_goals (cases h; exact Res.z rfl rfl rfl)
  clear h; intro hb h; conv => whnf
  refine br.h h ?_ ?_ ?_
  · rfl
  · clear h; intro hb h; conv => whnf
    all_goals (cases h; exact Res.z rfl rfl rfl)
  clear h; intro hb h; conv => whnf
  refine br.h h ?_ ?_ ?_
  · rfl
  · clear h; intro hb h; conv => whnf
    all_goals (cases h; exact Res.z rfl rfl rfl)
  clear h; intro hb h; conv => whnf
  refine br.h h ?_ ?_ ?_
  · rfl
  · clear h; intro hb h; conv => whnf
    all_goals (cases h; exact Res.z rfl rfl rfl)
  clear h; intro hb h; conv => whnf
  refine br.h h ?_ ?_ ?_
  · rfl
  · clear h; intro hb h; conv => whnf
    all_goals (cases h; exact Res.z rfl rfl rfl)
  clear h; intro hb h; conv => whnf
  refine br.h2 h ?_ ?_ ?_
  · rfl
  · clear h; intro hb h; conv => whnf
    refine br.h h ?_ ?_ ?_
    · rfl
    · clear h; intro hb h; conv => whnf
      all_goals (cases h; exact Res.z rfl rfl rfl)
    clear h; intro hb h; conv => whnf
    refine br.h h ?_ ?_ ?_
    · rfl
    · clear h; intro hb h; conv => whnf
      refine br.neg ?_ ?_; (focus (clear h; first | assumption | (simp_all; done)))
      conv => whnf
      all_goals (cases h; exact Res.z rfl rfl rfl)
    clear h; intro hb h; conv => whnf
    refine br.h h ?_ ?_ ?_
    · rfl
    · clear h; intro hb h; conv => whnf
      all_goals (cases h; exact Res.z rfl rfl rfl)
    clear h; intro hb h; conv => whnf
    all_goals (cases h; exact Res.z rfl rfl rfl)
  clear h; intro hb h; conv => whnf
  refine br.h h ?_ ?_ ?_
  · rfl
  · clear h; intro hb h; conv => whnf
    all_goals (cases h; exact Res.z rfl rfl rfl)
  clear h; intro hb h; conv => whnf
  refine br.h h ?_ ?_ ?_
  · rfl
  · clear h; intro hb h; conv => whnf
    all_goals (cases h; exact Res.z rfl rfl rfl)
  clear h; intro hb h; conv => whnf
  refine br.h h ?_ ?_ ?_
  · rfl
  · clear h; intro hb h; conv => whnf
    refine br.pos ?_ ?_; (focus (clear h; first | assumption | (simp_all; done)))
    conv => whnf
    all_goals (cases h; exact Res.z rfl rfl rfl)
  clear h; intro hb h; conv => whnf
  refine br.h h ?_ ?_ ?_
  · rfl
  · clear h; intro hb h; conv => whnf
    all_goals (cases h; exact Res.z rfl rfl rfl)
  clear h; intro hb h; conv => whnf
  all_goals (cases h; exact Res.z rfl rfl rfl)
theorem ok92 (hS : SumsOK Try.prog (aget (sums92))) : SumOK Try.prog 92 (s92 (R53_rightF)) := by
  refine SumOK.of_leads tab_ok (fun ar os r ha hr => ?_) ⟨Try.f92, rfl, by decide, rfl⟩
  replace hr : r92 (R53_rightF) ar (conts os) = some r := hr
  unfold r92 at hr
  generalize hc : conts os = C at hr
  replace hr := dV.elim hr; obtain ⟨v0, l1, y0, rfl, e0, hr⟩ := hr; obtain rfl := uvicmp_Message_eq _ _ e0
  replace hr := dV.elim hr; obtain ⟨v1, l2, y1, rfl, e1, hr⟩ := hr; obtain rfl := asB_eq _ _ e1
  replace hr := dFin hr; obtain ⟨rfl, rfl, x, h, rfl⟩ := hr
  obtain rfl := kinds_nil hc
  exact ⟨_, rfl, leads92 hS _ _ x h⟩
def R53_right : icmp_Message → Bool → Option Bool := R53_rightF
theorem lift92 : SumOK Try.prog 92 (s92 R53_right) := ok92 (SumsOK.of_tab trivial)
def R53_typF (six : Bool) (k : Int) : Option Int :=
  cond (six)
    (
    some (k))
    (
    cond (k == 3)
      (
      some (11))
      (
      some (3)))
def rx93 (x : Int) : SRes := ⟨.int .i64 x, [], []⟩
def r93 (g : Bool → Int → Option Int) : Dec := dV asB fun (y0 : Bool) => dV (asI .i64) fun (y1 : Int) => dEnd (ofG (g y0 y1) rx93)
theorem r93_c {g : Bool → Int → Option Int} {y0 : Bool} {y1 : Int} {x : Int} (hx : g y0 y1 = some x) : r93 g [.bool y0, .int .i64 y1] [] = some (rx93 x) := (dV_eq (asB_c)).trans ((dV_eq (asI_c _)).trans (ofG_eq hx))
def s93 (g : Bool → Int → Option Int) : Summ := ⟨[.v, .v], r93 g⟩
theorem r93_eq {g : Bool → Int → Option Int} {y0 : Bool} {y1 : Int} {x : Int} (hx : g y0 y1 = some x) : (s93 g).run [.bool y0, .int .i64 y1] [] = some (rx93 x) := r93_c hx
abbrev sums93 : List (Nat × Summ) := []
theorem leads93 (hS : SumsOK Try.prog (aget (sums93))) (six : Bool) (k : Int) (res : Int) (h : R53_typF six k = some res) :
    Leads Try.prog 93 0 ⟨⟨93, 9, [(0, .bool six), (1, .int .i64 k)], [.code k93_15], [], false, none⟩, [], [], 0⟩ (fun v H _ => Res 0 (rx93 res) v H) := by
  unfold R53_typF at h
  refine ev_ok tab_ok hS true 3000 ?_
  conv => whnf
  refine br.h h ?_ ?_ ?_
  · rfl
  · clear h; intro hb h; conv => whnf
    all_goals (cases h; exact Res.z rfl rfl rfl)
  clear h; intro hb h; conv => whnf
  refine br.h h ?_ ?_ ?_
  · rfl
  · clear h; intro hb h; conv => whnf
    all_goals (cases h; exact Res.z rfl rfl rfl)
  clear h; intro hb h; conv => whnf
  all_goals (cases h; exact Res.z rfl rfl rfl)
theorem ok93 (hS : SumsOK Try.prog (aget (sums93))) : SumOK Try.prog 93 (s93 (R53_typF)) := by
  refine SumOK.of_leads tab_ok (fun ar os r ha hr => ?_) ⟨Try.f93, rfl, by decide, rfl⟩
  replace hr : r93 (R53_typF) ar (conts os) = some r := hr
  unfold r93 at hr
  generalize hc : conts os = C at hr
  replace hr := dV.elim hr; obtain ⟨v0, l1, y0, rfl, e0, hr⟩ := hr; obtain rfl := asB_eq _ _ e0
  replace hr := dV.elim hr; obtain ⟨v1, l2, y1, rfl, e1, hr⟩ := hr; obtain rfl := asI_eq _ _ _ e1
  replace hr := dFin hr; obtain ⟨rfl, rfl, x, h, rfl⟩ := hr
  obtain rfl := kinds_nil hc
  exact ⟨_, rfl, leads93 hS _ _ x h⟩
def R53_typ : Bool → Int → Option Int := R53_typF
theorem lift93 : SumOK Try.prog 93 (s93 R53_typ) := ok93 (SumsOK.of_tab trivial)
def R53_overF (R05_Pseudo : api_Addr → api_Addr → Int → Int → Option (List UInt8)) (src : api_Addr) (dst : api_Addr) (n : Int) : Option (List UInt8) :=
  cond (src.V6)
    (
    (R05_Pseudo src dst 58 n).bind fun p =>
    some (p))
    (
    some ([]))
def rx94 (x : List UInt8) : SRes := ⟨.string ⟨⟨x⟩⟩, [], []⟩
def r94 (g : api_Addr → api_Addr → Int → Option (List UInt8)) : Dec := dV uvapi_Addr fun (y0 : api_Addr) => dV uvapi_Addr fun (y1 : api_Addr) => dV (asI .i64) fun (y2 : Int) => dEnd (ofG (g y0 y1 y2) rx94)
theorem r94_c {g : api_Addr → api_Addr → Int → Option (List UInt8)} {y0 : api_Addr} {y1 : api_Addr} {y2 : Int} {x : List UInt8} (hx : g y0 y1 y2 = some x) : r94 g [.agg ⟨[.bool y0.V6, .int .u64 y0.Hi, .int .u64 y0.Lo]⟩, .agg ⟨[.bool y1.V6, .int .u64 y1.Hi, .int .u64 y1.Lo]⟩, .int .i64 y2] [] = some (rx94 x) := (dV_eq (uvapi_Addr_c _)).trans ((dV_eq (uvapi_Addr_c _)).trans ((dV_eq (asI_c _)).trans (ofG_eq hx)))
def s94 (g : api_Addr → api_Addr → Int → Option (List UInt8)) : Summ := ⟨[.v, .v, .v], r94 g⟩
theorem r94_eq {g : api_Addr → api_Addr → Int → Option (List UInt8)} {y0 : api_Addr} {y1 : api_Addr} {y2 : Int} {x : List UInt8} (hx : g y0 y1 y2 = some x) : (s94 g).run [.agg ⟨[.bool y0.V6, .int .u64 y0.Hi, .int .u64 y0.Lo]⟩, .agg ⟨[.bool y1.V6, .int .u64 y1.Hi, .int .u64 y1.Lo]⟩, .int .i64 y2] [] = some (rx94 x) := r94_c hx
abbrev sums94 (R05_Pseudo : api_Addr → api_Addr → Int → Int → Option (List UInt8)) : List (Nat × Summ) := [(28, s28 R05_Pseudo)]
theorem leads94 (R05_Pseudo : api_Addr → api_Addr → Int → Int → Option (List UInt8)) (hS : SumsOK Try.prog (aget (sums94 R05_Pseudo))) (src : api_Addr) (dst : api_Addr) (n : Int) (res : List UInt8) (h : R53_overF R05_Pseudo src dst n = some res) :
    Leads Try.prog 94 0 ⟨⟨94, 13, [(0, .agg ⟨[.bool src.V6, .int .u64 src.Hi, .int .u64 src.Lo]⟩), (1, .agg ⟨[.bool dst.V6, .int .u64 dst.Hi, .int .u64 dst.Lo]⟩), (2, .int .i64 n)], [.code k94_9], [], false, none⟩, [], [], 0⟩ (fun v H _ => Res 0 (rx94 res) v H) := by
  unfold R53_overF at h
  refine ev_ok tab_ok hS true 3000 ?_
  conv => whnf
  refine br.h2 h ?_ ?_ ?_
  · rfl
  · clear h; intro hb h; conv => whnf
    all_goals (cases h; exact Res.z rfl rfl rfl)
  clear h; intro hb h; conv => whnf
  replace h := obind.elim h; obtain ⟨p, hy, h⟩ := h
  refine sumK.q rfl rfl (r28_eq hy) rfl rfl rfl ?_
  conv => whnf
  all_goals (cases h; exact Res.z rfl rfl rfl)
theorem ok94 (R05_Pseudo : api_Addr → api_Addr → Int → Int → Option (List UInt8)) (hS : SumsOK Try.prog (aget (sums94 R05_Pseudo))) : SumOK Try.prog 94 (s94 (R53_overF R05_Pseudo)) := by
  refine SumOK.of_leads tab_ok (fun ar os r ha hr => ?_) ⟨Try.f94, rfl, by decide, rfl⟩
  replace hr : r94 (R53_overF R05_Pseudo) ar (conts os) = some r := hr
  unfold r94 at hr
  generalize hc : conts os = C at hr
  replace hr := dV.elim hr; obtain ⟨v0, l1, y0, rfl, e0, hr⟩ := hr; obtain rfl := uvapi_Addr_eq _ _ e0
  replace hr := dV.elim hr; obtain ⟨v1, l2, y1, rfl, e1, hr⟩ := hr; obtain rfl := uvapi_Addr_eq _ _ e1
  replace hr := dV.elim hr; obtain ⟨v2, l3, y2, rfl, e2, hr⟩ := hr; obtain rfl := asI_eq _ _ _ e2
  replace hr := dFin hr; obtain ⟨rfl, rfl, x, h, rfl⟩ := hr
  obtain rfl := kinds_nil hc
  exact ⟨_, rfl, leads94 R05_Pseudo hS _ _ _ x h⟩
def R53_over : api_Addr → api_Addr → Int → Option (List UInt8) := R53_overF R05_Pseudo
theorem lift94 : SumOK Try.prog 94 (s94 R53_over) := ok94 R05_Pseudo (SumsOK.of_tab ⟨lift28, trivial⟩)
def R53_PutF (R02_Put : Int → Int → Option (List UInt8)) (R03_Of : (List UInt8) → Option Int) (R03_Set : (List UInt8) → Int → Int → Int → Option (List UInt8)) (R53_over : api_Addr → api_Addr → Int → Option (List UInt8)) (R53_pair : api_Addr → api_Addr → Option Bool) (R53_right : icmp_Message → Bool → Option Bool) (R53_typ : Bool → Int → Option Int) (m : icmp_Message) (src : api_Addr) (dst : api_Addr) : Option ((List UInt8) × Int) :=
  (R53_pair src dst).bind fun p =>
  cond (!p)
    (
    some (([], 1)))
    (
    (R53_right m src.V6).bind fun xr =>
    cond (!xr)
      (
      some (([], 1)))
      (
      (R53_typ src.V6 m.Kind).bind fun t =>
      (R02_Put (wI .u64 t) 1).bind fun p1 =>
      (R02_Put (wI .u64 m.Code) 1).bind fun p2 =>
      oreq (decide (p1.length + p2.length < 2 ^ 63)) <|
      oreq (decide ((p1 ++ p2).length + 4 < 2 ^ 63)) <|
      (R02_Put (wI .u64 m.MTU) 2).bind fun p3 =>
      oreq (decide (((p1 ++ p2) ++ [0, 0, 0, 0]).length + p3.length < 2 ^ 63)) <|
      oreq (decide ((((p1 ++ p2) ++ [0, 0, 0, 0]) ++ p3).length + m.Quote.length < 2 ^ 63)) <|
      let t1 := (((p1 ++ p2) ++ [0, 0, 0, 0]) ++ p3) ++ m.Quote
      (R53_over src dst (t1.length : Int)).bind fun xo =>
      oreq (decide (xo.length + t1.length < 2 ^ 63)) <|
      (R03_Of (xo ++ t1)).bind fun xo1 =>
      (R03_Set t1 2 2 (wI .u64 xo1)).bind fun s =>
      some ((s, 0))))
def rx33 (x : (List UInt8) × Int) : SRes := ⟨.tuple ⟨[.string ⟨⟨x.1⟩⟩, .int .i64 x.2]⟩, [], []⟩
def r33 (g : icmp_Message → api_Addr → api_Addr → Option ((List UInt8) × Int)) : Dec := dV uvicmp_Message fun (y0 : icmp_Message) => dV uvapi_Addr fun (y1 : api_Addr) => dV uvapi_Addr fun (y2 : api_Addr) => dEnd (ofG (g y0 y1 y2) rx33)
theorem r33_c {g : icmp_Message → api_Addr → api_Addr → Option ((List UInt8) × Int)} {y0 : icmp_Message} {y1 : api_Addr} {y2 : api_Addr} {x : (List UInt8) × Int} (hx : g y0 y1 y2 = some x) : r33 g [.agg ⟨[.int .i64 y0.Kind, .int .i64 y0.Code, .int .i64 y0.MTU, .string ⟨⟨y0.Quote⟩⟩]⟩, .agg ⟨[.bool y1.V6, .int .u64 y1.Hi, .int .u64 y1.Lo]⟩, .agg ⟨[.bool y2.V6, .int .u64 y2.Hi, .int .u64 y2.Lo]⟩] [] = some (rx33 x) := (dV_eq (uvicmp_Message_c _)).trans ((dV_eq (uvapi_Addr_c _)).trans ((dV_eq (uvapi_Addr_c _)).trans (ofG_eq hx)))
def s33 (g : icmp_Message → api_Addr → api_Addr → Option ((List UInt8) × Int)) : Summ := ⟨[.v, .v, .v], r33 g⟩
theorem r33_eq {g : icmp_Message → api_Addr → api_Addr → Option ((List UInt8) × Int)} {y0 : icmp_Message} {y1 : api_Addr} {y2 : api_Addr} {x : (List UInt8) × Int} (hx : g y0 y1 y2 = some x) : (s33 g).run [.agg ⟨[.int .i64 y0.Kind, .int .i64 y0.Code, .int .i64 y0.MTU, .string ⟨⟨y0.Quote⟩⟩]⟩, .agg ⟨[.bool y1.V6, .int .u64 y1.Hi, .int .u64 y1.Lo]⟩, .agg ⟨[.bool y2.V6, .int .u64 y2.Hi, .int .u64 y2.Lo]⟩] [] = some (rx33 x) := r33_c hx
abbrev sums33 (R02_Put : Int → Int → Option (List UInt8)) (R03_Of : (List UInt8) → Option Int) (R03_Set : (List UInt8) → Int → Int → Int → Option (List UInt8)) (R53_over : api_Addr → api_Addr → Int → Option (List UInt8)) (R53_pair : api_Addr → api_Addr → Option Bool) (R53_right : icmp_Message → Bool → Option Bool) (R53_typ : Bool → Int → Option Int) : List (Nat × Summ) := [(67, s67 R02_Put), (68, s68 R03_Of), (69, s69 R03_Set), (94, s94 R53_over), (91, s91 R53_pair), (92, s92 R53_right), (93, s93 R53_typ)]
theorem leads33 (R02_Put : Int → Int → Option (List UInt8)) (R03_Of : (List UInt8) → Option Int) (R03_Set : (List UInt8) → Int → Int → Int → Option (List UInt8)) (R53_over : api_Addr → api_Addr → Int → Option (List UInt8)) (R53_pair : api_Addr → api_Addr → Option Bool) (R53_right : icmp_Message → Bool → Option Bool) (R53_typ : Bool → Int → Option Int) (hS : SumsOK Try.prog (aget (sums33 R02_Put R03_Of R03_Set R53_over R53_pair R53_right R53_typ))) (m : icmp_Message) (src : api_Addr) (dst : api_Addr) (res : (List UInt8) × Int) (h : R53_PutF R02_Put R03_Of R03_Set R53_over R53_pair R53_right R53_typ m src dst = some res) :
    Leads Try.prog 33 0 ⟨⟨33, 52, [(0, .agg ⟨[.int .i64 m.Kind, .int .i64 m.Code, .int .i64 m.MTU, .string ⟨⟨m.Quote⟩⟩]⟩), (1, .agg ⟨[.bool src.V6, .int .u64 src.Hi, .int .u64 src.Lo]⟩), (2, .agg ⟨[.bool dst.V6, .int .u64 dst.Hi, .int .u64 dst.Lo]⟩)], [.code k33_11], [], false, none⟩, [], [], 0⟩ (fun v H _ => Res 0 (rx33 res) v H) := by
  unfold R53_PutF at h
  refine ev_ok tab_ok hS true 3000 ?_
  conv => whnf
  replace h := obind.elim h; obtain ⟨p, hy, h⟩ := h
  refine sumK.q rfl rfl (r91_eq hy) rfl rfl rfl ?_
  conv => whnf
  refine br.h h ?_ ?_ ?_
  · rfl
  · clear h; intro hb h; conv => whnf
    all_goals (cases h; exact Res.z rfl rfl rfl)
  clear h; intro hb h; conv => whnf
  replace h := obind.elim h; obtain ⟨xr, hy, h⟩ := h
  refine sumK.q rfl rfl (r92_eq hy) rfl rfl rfl ?_
  conv => whnf
  refine br.h h ?_ ?_ ?_
  · rfl
  · clear h; intro hb h; conv => whnf
    all_goals (cases h; exact Res.z rfl rfl rfl)
  clear h; intro hb h; conv => whnf
  replace h := obind.elim h; obtain ⟨t, hy, h⟩ := h
  refine sumK.q rfl rfl (r93_eq hy) rfl rfl rfl ?_
  conv => whnf
  replace h := obind.elim h; obtain ⟨p1, hy, h⟩ := h
  refine sumK.q rfl rfl (r67_eq hy) rfl rfl rfl ?_
  conv => whnf
  replace h := obind.elim h; obtain ⟨p2, hy, h⟩ := h
  refine sumK.q rfl rfl (r67_eq hy) rfl rfl rfl ?_
  conv => whnf
  replace h := oreq.elim h; obtain ⟨hb, h⟩ := h
  first | (refine req.intro hb ?_; conv => whnf) | skip
  replace h := oreq.elim h; obtain ⟨hb, h⟩ := h
  first | (refine req.intro hb ?_; conv => whnf) | skip
  replace h := obind.elim h; obtain ⟨p3, hy, h⟩ := h
  refine sumK.q rfl rfl (r67_eq hy) rfl rfl rfl ?_
  conv => whnf
  replace h := oreq.elim h; obtain ⟨hb, h⟩ := h
  first | (refine req.intro hb ?_; conv => whnf) | skip
  replace h := oreq.elim h; obtain ⟨hb, h⟩ := h
  first | (refine req.intro hb ?_; conv => whnf) | skip
  let t1 : List UInt8 := (((p1 ++ p2) ++ [0, 0, 0, 0]) ++ p3) ++ m.Quote
  replace h := obind.elim h; obtain ⟨xo, hy, h⟩ := h
  refine sumK.q rfl rfl (r94_eq hy) rfl rfl rfl ?_
  conv => whnf
  replace h := oreq.elim h; obtain ⟨hb, h⟩ := h
  first | (refine req.intro hb ?_; conv => whnf) | skip
  replace h := obind.elim h; obtain ⟨xo1, hy, h⟩ := h
  refine sumK.q rfl rfl (r68_eq hy) rfl rfl rfl ?_
  conv => whnf
  replace h := obind.elim h; obtain ⟨s, hy, h⟩ := h
  refine sumK.q rfl rfl (r69_eq hy) rfl rfl rfl ?_
  conv => whnf
  all_goals (cases h; exact Res.z rfl rfl rfl)
theorem ok33 (R02_Put : Int → Int → Option (List UInt8)) (R03_Of : (List UInt8) → Option Int) (R03_Set : (List UInt8) → Int → Int → Int → Option (List UInt8)) (R53_over : api_Addr → api_Addr → Int → Option (List UInt8)) (R53_pair : api_Addr → api_Addr → Option Bool) (R53_right : icmp_Message → Bool → Option Bool) (R53_typ : Bool → Int → Option Int) (hS : SumsOK Try.prog (aget (sums33 R02_Put R03_Of R03_Set R53_over R53_pair R53_right R53_typ))) : SumOK Try.prog 33 (s33 (R53_PutF R02_Put R03_Of R03_Set R53_over R53_pair R53_right R53_typ)) := by
  refine SumOK.of_leads tab_ok (fun ar os r ha hr => ?_) ⟨Try.f33, rfl, by decide, rfl⟩
  replace hr : r33 (R53_PutF R02_Put R03_Of R03_Set R53_over R53_pair R53_right R53_typ) ar (conts os) = some r := hr
  unfold r33 at hr
  generalize hc : conts os = C at hr
  replace hr := dV.elim hr; obtain ⟨v0, l1, y0, rfl, e0, hr⟩ := hr; obtain rfl := uvicmp_Message_eq _ _ e0
  replace hr := dV.elim hr; obtain ⟨v1, l2, y1, rfl, e1, hr⟩ := hr; obtain rfl := uvapi_Addr_eq _ _ e1
  replace hr := dV.elim hr; obtain ⟨v2, l3, y2, rfl, e2, hr⟩ := hr; obtain rfl := uvapi_Addr_eq _ _ e2
  replace hr := dFin hr; obtain ⟨rfl, rfl, x, h, rfl⟩ := hr
  obtain rfl := kinds_nil hc
  exact ⟨_, rfl, leads33 R02_Put R03_Of R03_Set R53_over R53_pair R53_right R53_typ hS _ _ _ x h⟩
def R53_Put : icmp_Message → api_Addr → api_Addr → Option ((List UInt8) × Int) := R53_PutF R02_Put R03_Of R03_Set R53_over R53_pair R53_right R53_typ
theorem lift33 : SumOK Try.prog 33 (s33 R53_Put) := ok33 R02_Put R03_Of R03_Set R53_over R53_pair R53_right R53_typ (SumsOK.of_tab ⟨lift67, lift68, lift69, lift94, lift91, lift92, lift93, trivial⟩)
def R53_kindF (six : Bool) (typ : Int) (code : Int) : Option Int :=
  cond (six)
    (
    cond (decide (typ ≥ 1))
      (
      cond (decide (typ ≤ 3))
        (
        cond (typ != 2)
          (
          some (typ))
          (
          cond (code == 0)
            (
            some (typ))
            (
            some (4))))
        (
        some (4)))
      (
      some (4)))
    (
    cond (typ == 11)
      (
      some (3))
      (
      cond (typ != 3)
        (
        some (4))
        (
        cond (code == 4)
          (
          some (2))
          (
          some (1)))))
def rx97 (x : Int) : SRes := ⟨.int .i64 x, [], []⟩
def r97 (g : Bool → Int → Int → Option Int) : Dec := dV asB fun (y0 : Bool) => dV (asI .i64) fun (y1 : Int) => dV (asI .i64) fun (y2 : Int) => dEnd (ofG (g y0 y1 y2) rx97)
theorem r97_c {g : Bool → Int → Int → Option Int} {y0 : Bool} {y1 : Int} {y2 : Int} {x : Int} (hx : g y0 y1 y2 = some x) : r97 g [.bool y0, .int .i64 y1, .int .i64 y2] [] = some (rx97 x) := (dV_eq (asB_c)).trans ((dV_eq (asI_c _)).trans ((dV_eq (asI_c _)).trans (ofG_eq hx)))
def s97 (g : Bool → Int → Int → Option Int) : Summ := ⟨[.v, .v, .v], r97 g⟩
theorem r97_eq {g : Bool → Int → Int → Option Int} {y0 : Bool} {y1 : Int} {y2 : Int} {x : Int} (hx : g y0 y1 y2 = some x) : (s97 g).run [.bool y0, .int .i64 y1, .int .i64 y2] [] = some (rx97 x) := r97_c hx
abbrev sums97 : List (Nat × Summ) := []
theorem leads97 (hS : SumsOK Try.prog (aget (sums97))) (six : Bool) (typ : Int) (code : Int) (res : Int) (h : R53_kindF six typ code = some res) :
    Leads Try.prog 97 0 ⟨⟨97, 29, [(0, .bool six), (1, .int .i64 typ), (2, .int .i64 code)], [.code k97_33], [], false, none⟩, [], [], 0⟩ (fun v H _ => Res 0 (rx97 res) v H) := by
  unfold R53_kindF at h
  refine ev_ok tab_ok hS true 3000 ?_
  conv => whnf
  refine br.h2 h ?_ ?_ ?_
  · rfl
  · clear h; intro hb h; conv => whnf
    refine br.h h ?_ ?_ ?_
    · rfl
    · clear h; intro hb h; conv => whnf
      all_goals (cases h; exact Res.z rfl rfl rfl)
    clear h; intro hb h; conv => whnf
    refine br.h h ?_ ?_ ?_
    · rfl
    · clear h; intro hb h; conv => whnf
      all_goals (cases h; exact Res.z rfl rfl rfl)
    clear h; intro hb h; conv => whnf
    refine br.h h ?_ ?_ ?_
    · rfl
    · clear h; intro hb h; conv => whnf
      all_goals (cases h; exact Res.z rfl rfl rfl)
    clear h; intro hb h; conv => whnf
    all_goals (cases h; exact Res.z rfl rfl rfl)
  clear h; intro hb h; conv => whnf
  refine br.h2 h ?_ ?_ ?_
  · rfl
  · clear h; intro hb h; conv => whnf
    all_goals (cases h; exact Res.z rfl rfl rfl)
  clear h; intro hb h; conv => whnf
  refine br.h2 h ?_ ?_ ?_
  · rfl
  · clear h; intro hb h; conv => whnf
    all_goals (cases h; exact Res.z rfl rfl rfl)
  clear h; intro hb h; conv => whnf
  refine br.h h ?_ ?_ ?_
  · rfl
  · clear h; intro hb h; conv => whnf
    all_goals (cases h; exact Res.z rfl rfl rfl)
  clear h; intro hb h; conv => whnf
  refine br.h h ?_ ?_ ?_
  · rfl
  · clear h; intro hb h; conv => whnf
    all_goals (cases h; exact Res.z rfl rfl rfl)
  clear h; intro hb h; conv => whnf
  all_goals (cases h; exact Res.z rfl rfl rfl)
theorem ok97 (hS : SumsOK Try.prog (aget (sums97))) : SumOK Try.prog 97 (s97 (R53_kindF)) := by
  refine SumOK.of_leads tab_ok (fun ar os r ha hr => ?_) ⟨Try.f97, rfl, by decide, rfl⟩
  replace hr : r97 (R53_kindF) ar (conts os) = some r := hr
  unfold r97 at hr
  generalize hc : conts os = C at hr
  replace hr := dV.elim hr; obtain ⟨v0, l1, y0, rfl, e0, hr⟩ := hr; obtain rfl := asB_eq _ _ e0
  replace hr := dV.elim hr; obtain ⟨v1, l2, y1, rfl, e1, hr⟩ := hr; obtain rfl := asI_eq _ _ _ e1
  replace hr := dV.elim hr; obtain ⟨v2, l3, y2, rfl, e2, hr⟩ := hr; obtain rfl := asI_eq _ _ _ e2
  replace hr := dFin hr; obtain ⟨rfl, rfl, x, h, rfl⟩ := hr
  obtain rfl := kinds_nil hc
  exact ⟨_, rfl, leads97 hS _ _ _ x h⟩
def R53_kind : Bool → Int → Int → Option Int := R53_kindF
theorem lift97 : SumOK Try.prog 97 (s97 R53_kind) := ok97 (SumsOK.of_tab trivial)
def R53_GetF (R02_Must : (List UInt8) → Int → Int → Option Int) (R03_Sum : (List UInt8) → Option Int) (R53_kind : Bool → Int → Int → Option Int) (R53_over : api_Addr → api_Addr → Int → Option (List UInt8)) (R53_pair : api_Addr → api_Addr → Option Bool) (s : List UInt8) (src : api_Addr) (dst : api_Addr) : Option (icmp_Message × Int) :=
  cond (decide ((s.length : Int) < 8))
    (
    some ((icmp_Message.mk 0 0 0 [], 2)))
    (
    (R53_pair src dst).bind fun p =>
    cond (!p)
      (
      some ((icmp_Message.mk 0 0 0 [], 1)))
      (
      (R53_over src dst (s.length : Int)).bind fun xo =>
      oreq (decide (xo.length + s.length < 2 ^ 63)) <|
      (R03_Sum (xo ++ s)).bind fun s1 =>
      cond (s1 != 65535)
        (
        some ((icmp_Message.mk 0 0 0 [], 4)))
        (
        cond (decide ((s.length : Int) > 1240))
          (
          some ((icmp_Message.mk 0 0 0 [], 5)))
          (
          (s[0]?).bind fun (b : UInt8) =>
          (s[1]?).bind fun (b1 : UInt8) =>
          (R53_kind src.V6 (wI .i64 (b.toNat : Int)) (wI .i64 (b1.toNat : Int))).bind fun k =>
          (s[1]?).bind fun (b2 : UInt8) =>
          oreq (decide ((0 : Int) ≤ (8 : Int) ∧ (8 : Int) ≤ (s.length : Int))) <|
          cond (k == 2)
            (
            (R02_Must s 6 2).bind fun m =>
            some ((icmp_Message.mk k (wI .i64 (b2.toNat : Int)) m ((s.drop 8).take (s.length - 8)), 0)))
            (
            some ((icmp_Message.mk k (wI .i64 (b2.toNat : Int)) 0 ((s.drop 8).take (s.length - 8)), 0)))))))
def rx35 (x : icmp_Message × Int) : SRes := ⟨.tuple ⟨[.agg ⟨[.int .i64 x.1.Kind, .int .i64 x.1.Code, .int .i64 x.1.MTU, .string ⟨⟨x.1.Quote⟩⟩]⟩, .int .i64 x.2]⟩, [], []⟩
def r35 (g : (List UInt8) → api_Addr → api_Addr → Option (icmp_Message × Int)) : Dec := dV asS fun (y0 : List UInt8) => dV uvapi_Addr fun (y1 : api_Addr) => dV uvapi_Addr fun (y2 : api_Addr) => dEnd (ofG (g y0 y1 y2) rx35)
theorem r35_c {g : (List UInt8) → api_Addr → api_Addr → Option (icmp_Message × Int)} {y0 : List UInt8} {y1 : api_Addr} {y2 : api_Addr} {x : icmp_Message × Int} (hx : g y0 y1 y2 = some x) : r35 g [.string ⟨⟨y0⟩⟩, .agg ⟨[.bool y1.V6, .int .u64 y1.Hi, .int .u64 y1.Lo]⟩, .agg ⟨[.bool y2.V6, .int .u64 y2.Hi, .int .u64 y2.Lo]⟩] [] = some (rx35 x) := (dV_eq (asS_c)).trans ((dV_eq (uvapi_Addr_c _)).trans ((dV_eq (uvapi_Addr_c _)).trans (ofG_eq hx)))
def s35 (g : (List UInt8) → api_Addr → api_Addr → Option (icmp_Message × Int)) : Summ := ⟨[.v, .v, .v], r35 g⟩
theorem r35_eq {g : (List UInt8) → api_Addr → api_Addr → Option (icmp_Message × Int)} {y0 : List UInt8} {y1 : api_Addr} {y2 : api_Addr} {x : icmp_Message × Int} (hx : g y0 y1 y2 = some x) : (s35 g).run [.string ⟨⟨y0⟩⟩, .agg ⟨[.bool y1.V6, .int .u64 y1.Hi, .int .u64 y1.Lo]⟩, .agg ⟨[.bool y2.V6, .int .u64 y2.Hi, .int .u64 y2.Lo]⟩] [] = some (rx35 x) := r35_c hx
abbrev sums35 (R02_Must : (List UInt8) → Int → Int → Option Int) (R03_Sum : (List UInt8) → Option Int) (R53_kind : Bool → Int → Int → Option Int) (R53_over : api_Addr → api_Addr → Int → Option (List UInt8)) (R53_pair : api_Addr → api_Addr → Option Bool) : List (Nat × Summ) := [(74, s74 R02_Must), (75, s75 R03_Sum), (97, s97 R53_kind), (94, s94 R53_over), (91, s91 R53_pair)]
theorem leads35 (R02_Must : (List UInt8) → Int → Int → Option Int) (R03_Sum : (List UInt8) → Option Int) (R53_kind : Bool → Int → Int → Option Int) (R53_over : api_Addr → api_Addr → Int → Option (List UInt8)) (R53_pair : api_Addr → api_Addr → Option Bool) (hS : SumsOK Try.prog (aget (sums35 R02_Must R03_Sum R53_kind R53_over R53_pair))) (s : List UInt8) (src : api_Addr) (dst : api_Addr) (res : icmp_Message × Int) (h : R53_GetF R02_Must R03_Sum R53_kind R53_over R53_pair s src dst = some res) :
    Leads Try.prog 35 0 ⟨⟨35, 54, [(0, .string ⟨⟨s⟩⟩), (1, .agg ⟨[.bool src.V6, .int .u64 src.Hi, .int .u64 src.Lo]⟩), (2, .agg ⟨[.bool dst.V6, .int .u64 dst.Hi, .int .u64 dst.Lo]⟩)], [.code k35_34], [], false, none⟩, [], [], 0⟩ (fun v H _ => Res 0 (rx35 res) v H) := by
  unfold R53_GetF at h
  refine ev_ok tab_ok hS true 3000 ?_
  conv => whnf
  refine br.h h ?_ ?_ ?_
  · rfl
  · clear h; intro hb h; conv => whnf
    all_goals (cases h; exact Res.z rfl rfl rfl)
  clear h; intro hb h; conv => whnf
  replace h := obind.elim h; obtain ⟨p, hy, h⟩ := h
  refine sumK.q rfl rfl (r91_eq hy) rfl rfl rfl ?_
  conv => whnf
  refine br.h h ?_ ?_ ?_
  · rfl
  · clear h; intro hb h; conv => whnf
    all_goals (cases h; exact Res.z rfl rfl rfl)
  clear h; intro hb h; conv => whnf
  replace h := obind.elim h; obtain ⟨xo, hy, h⟩ := h
  refine sumK.q rfl rfl (r94_eq hy) rfl rfl rfl ?_
  conv => whnf
  replace h := oreq.elim h; obtain ⟨hb, h⟩ := h
  first | (refine req.intro hb ?_; conv => whnf) | skip
  replace h := obind.elim h; obtain ⟨s1, hy, h⟩ := h
  refine sumK.q rfl rfl (r75_eq hy) rfl rfl rfl ?_
  conv => whnf
  refine br.h h ?_ ?_ ?_
  · rfl
  · clear h; intro hb h; conv => whnf
    all_goals (cases h; exact Res.z rfl rfl rfl)
  clear h; intro hb h; conv => whnf
  refine br.h h ?_ ?_ ?_
  · rfl
  · clear h; intro hb h; conv => whnf
    all_goals (cases h; exact Res.z rfl rfl rfl)
  clear h; intro hb h; conv => whnf
  replace h := obind.elim h; obtain ⟨b, hy, h⟩ := h
  refine rdS.intro hy ?_
  conv => whnf
  replace h := obind.elim h; obtain ⟨b1, hy, h⟩ := h
  refine rdS.intro hy ?_
  conv => whnf
  replace h := obind.elim h; obtain ⟨k, hy, h⟩ := h
  refine sumK.q rfl rfl (r97_eq hy) rfl rfl rfl ?_
  conv => whnf
  replace h := obind.elim h; obtain ⟨b2, hy, h⟩ := h
  refine rdS.intro hy ?_
  conv => whnf
  replace h := oreq.elim h; obtain ⟨hb, h⟩ := h
  first | (refine req.intro hb ?_; conv => whnf) | skip
  refine br.h2 h ?_ ?_ ?_
  · rfl
  · clear h; intro hb h; conv => whnf
    all_goals (cases h; exact Res.z rfl rfl rfl)
  clear h; intro hb h; conv => whnf
  replace h := obind.elim h; obtain ⟨m, hy, h⟩ := h
  refine sumK.q rfl rfl (r74_eq hy) rfl rfl rfl ?_
  conv => whnf
  all_goals (cases h; exact Res.z rfl rfl rfl)
theorem ok35 (R02_Must : (List UInt8) → Int → Int → Option Int) (R03_Sum : (List UInt8) → Option Int) (R53_kind : Bool → Int → Int → Option Int) (R53_over : api_Addr → api_Addr → Int → Option (List UInt8)) (R53_pair : api_Addr → api_Addr → Option Bool) (hS : SumsOK Try.prog (aget (sums35 R02_Must R03_Sum R53_kind R53_over R53_pair))) : SumOK Try.prog 35 (s35 (R53_GetF R02_Must R03_Sum R53_kind R53_over R53_pair)) := by
  refine SumOK.of_leads tab_ok (fun ar os r ha hr => ?_) ⟨Try.f35, rfl, by decide, rfl⟩
  replace hr : r35 (R53_GetF R02_Must R03_Sum R53_kind R53_over R53_pair) ar (conts os) = some r := hr
  unfold r35 at hr
  generalize hc : conts os = C at hr
  replace hr := dV.elim hr; obtain ⟨v0, l1, y0, rfl, e0, hr⟩ := hr; obtain rfl := asS_eq _ _ e0
  replace hr := dV.elim hr; obtain ⟨v1, l2, y1, rfl, e1, hr⟩ := hr; obtain rfl := uvapi_Addr_eq _ _ e1
  replace hr := dV.elim hr; obtain ⟨v2, l3, y2, rfl, e2, hr⟩ := hr; obtain rfl := uvapi_Addr_eq _ _ e2
  replace hr := dFin hr; obtain ⟨rfl, rfl, x, h, rfl⟩ := hr
  obtain rfl := kinds_nil hc
  exact ⟨_, rfl, leads35 R02_Must R03_Sum R53_kind R53_over R53_pair hS _ _ _ x h⟩
def R53_Get : (List UInt8) → api_Addr → api_Addr → Option (icmp_Message × Int) := R53_GetF R02_Must R03_Sum R53_kind R53_over R53_pair
theorem lift35 : SumOK Try.prog 35 (s35 R53_Get) := ok35 R02_Must R03_Sum R53_kind R53_over R53_pair (SumsOK.of_tab ⟨lift74, lift75, lift97, lift94, lift91, trivial⟩)
def ipfour_withinF (n : Int) (most : Int) : Option Bool :=
  cond (decide (0 ≤ n))
    (
    some (decide (n ≤ most)))
    (
    some (false))
def rx117 (x : Bool) : SRes := ⟨.bool x, [], []⟩
def r117 (g : Int → Int → Option Bool) : Dec := dV (asI .i64) fun (y0 : Int) => dV (asI .i64) fun (y1 : Int) => dEnd (ofG (g y0 y1) rx117)
theorem r117_c {g : Int → Int → Option Bool} {y0 : Int} {y1 : Int} {x : Bool} (hx : g y0 y1 = some x) : r117 g [.int .i64 y0, .int .i64 y1] [] = some (rx117 x) := (dV_eq (asI_c _)).trans ((dV_eq (asI_c _)).trans (ofG_eq hx))
def s117 (g : Int → Int → Option Bool) : Summ := ⟨[.v, .v], r117 g⟩
theorem r117_eq {g : Int → Int → Option Bool} {y0 : Int} {y1 : Int} {x : Bool} (hx : g y0 y1 = some x) : (s117 g).run [.int .i64 y0, .int .i64 y1] [] = some (rx117 x) := r117_c hx
abbrev sums117 : List (Nat × Summ) := []
theorem leads117 (hS : SumsOK Try.prog (aget (sums117))) (n : Int) (most : Int) (res : Bool) (h : ipfour_withinF n most = some res) :
    Leads Try.prog 117 0 ⟨⟨117, 12, [(0, .int .i64 n), (1, .int .i64 most)], [.code k117_3], [], false, none⟩, [], [], 0⟩ (fun v H _ => Res 0 (rx117 res) v H) := by
  unfold ipfour_withinF at h
  refine ev_ok tab_ok hS true 3000 ?_
  conv => whnf
  refine br.h h ?_ ?_ ?_
  · rfl
  · clear h; intro hb h; conv => whnf
    all_goals (cases h; exact Res.z rfl rfl rfl)
  clear h; intro hb h; conv => whnf
  all_goals (cases h; exact Res.z rfl rfl rfl)
theorem ok117 (hS : SumsOK Try.prog (aget (sums117))) : SumOK Try.prog 117 (s117 (ipfour_withinF)) := by
  refine SumOK.of_leads tab_ok (fun ar os r ha hr => ?_) ⟨Try.f117, rfl, by decide, rfl⟩
  replace hr : r117 (ipfour_withinF) ar (conts os) = some r := hr
  unfold r117 at hr
  generalize hc : conts os = C at hr
  replace hr := dV.elim hr; obtain ⟨v0, l1, y0, rfl, e0, hr⟩ := hr; obtain rfl := asI_eq _ _ _ e0
  replace hr := dV.elim hr; obtain ⟨v1, l2, y1, rfl, e1, hr⟩ := hr; obtain rfl := asI_eq _ _ _ e1
  replace hr := dFin hr; obtain ⟨rfl, rfl, x, h, rfl⟩ := hr
  obtain rfl := kinds_nil hc
  exact ⟨_, rfl, leads117 hS _ _ x h⟩
def ipfour_within : Int → Int → Option Bool := ipfour_withinF
theorem lift117 : SumOK Try.prog 117 (s117 ipfour_within) := ok117 (SumsOK.of_tab trivial)
def ipfour_fourF (addr_Right : api_Addr → Option Bool) (a : api_Addr) : Option Bool :=
  cond (!a.V6)
    (
    (addr_Right a).bind fun xr =>
    some (xr))
    (
    some (false))
def rx118 (x : Bool) : SRes := ⟨.bool x, [], []⟩
def r118 (g : api_Addr → Option Bool) : Dec := dV uvapi_Addr fun (y0 : api_Addr) => dEnd (ofG (g y0) rx118)
theorem r118_c {g : api_Addr → Option Bool} {y0 : api_Addr} {x : Bool} (hx : g y0 = some x) : r118 g [.agg ⟨[.bool y0.V6, .int .u64 y0.Hi, .int .u64 y0.Lo]⟩] [] = some (rx118 x) := (dV_eq (uvapi_Addr_c _)).trans (ofG_eq hx)
def s118 (g : api_Addr → Option Bool) : Summ := ⟨[.v], r118 g⟩
theorem r118_eq {g : api_Addr → Option Bool} {y0 : api_Addr} {x : Bool} (hx : g y0 = some x) : (s118 g).run [.agg ⟨[.bool y0.V6, .int .u64 y0.Hi, .int .u64 y0.Lo]⟩] [] = some (rx118 x) := r118_c hx
abbrev sums118 (addr_Right : api_Addr → Option Bool) : List (Nat × Summ) := [(85, s85 addr_Right)]
theorem leads118 (addr_Right : api_Addr → Option Bool) (hS : SumsOK Try.prog (aget (sums118 addr_Right))) (a : api_Addr) (res : Bool) (h : ipfour_fourF addr_Right a = some res) :
    Leads Try.prog 118 0 ⟨⟨118, 10, [(0, .agg ⟨[.bool a.V6, .int .u64 a.Hi, .int .u64 a.Lo]⟩)], [.code k118_3], [], false, none⟩, [], [], 0⟩ (fun v H _ => Res 0 (rx118 res) v H) := by
  unfold ipfour_fourF at h
  refine ev_ok tab_ok hS true 3000 ?_
  conv => whnf
  refine br.h2 h ?_ ?_ ?_
  · rfl
  · clear h; intro hb h; conv => whnf
    all_goals (cases h; exact Res.z rfl rfl rfl)
  clear h; intro hb h; conv => whnf
  replace h := obind.elim h; obtain ⟨xr, hy, h⟩ := h
  refine sumK.q rfl rfl (r85_eq hy) rfl rfl rfl ?_
  conv => whnf
  all_goals (cases h; exact Res.z rfl rfl rfl)
theorem ok118 (addr_Right : api_Addr → Option Bool) (hS : SumsOK Try.prog (aget (sums118 addr_Right))) : SumOK Try.prog 118 (s118 (ipfour_fourF addr_Right)) := by
  refine SumOK.of_leads tab_ok (fun ar os r ha hr => ?_) ⟨Try.f118, rfl, by decide, rfl⟩
  replace hr : r118 (ipfour_fourF addr_Right) ar (conts os) = some r := hr
  unfold r118 at hr
  generalize hc : conts os = C at hr
  replace hr := dV.elim hr; obtain ⟨v0, l1, y0, rfl, e0, hr⟩ := hr; obtain rfl := uvapi_Addr_eq _ _ e0
  replace hr := dFin hr; obtain ⟨rfl, rfl, x, h, rfl⟩ := hr
  obtain rfl := kinds_nil hc
  exact ⟨_, rfl, leads118 addr_Right hS _ x h⟩
def ipfour_four : api_Addr → Option Bool := ipfour_fourF addr_Right
theorem lift118 : SumOK Try.prog 118 (s118 ipfour_four) := ok118 addr_Right (SumsOK.of_tab ⟨lift85, trivial⟩)
def ipfour_Head_mayF (ipfour_four : api_Addr → Option Bool) (ipfour_within : Int → Int → Option Bool) (ha0 : ipfour_Head) : Option Bool :=
  (ipfour_within ha0.Class 255).bind fun w =>
  cond (!w)
    (
    some (false))
    (
    (ipfour_within ha0.Mark 65535).bind fun w1 =>
    cond (!w1)
      (
      some (false))
      (
      (ipfour_within ha0.TTL 255).bind fun w2 =>
      cond (!w2)
        (
        some (false))
        (
        (ipfour_within ha0.Proto 255).bind fun w3 =>
        cond (!w3)
          (
          some (false))
          (
          (ipfour_four ha0.Src).bind fun f =>
          cond (f)
            (
            (ipfour_four ha0.Dst).bind fun f1 =>
            cond (f1)
              (
              cond (((ha0.Options.length : Int).tmod 4) == 0)
                (
                some (decide ((ha0.Options.length : Int) ≤ 40)))
                (
                some (false)))
              (
              some (false)))
            (
            some (false))))))
def rx76 (x : Bool) : SRes := ⟨.bool x, [], []⟩
def r76 (g : ipfour_Head → Option Bool) : Dec := dV uvipfour_Head fun (y0 : ipfour_Head) => dEnd (ofG (g y0) rx76)
theorem r76_c {g : ipfour_Head → Option Bool} {y0 : ipfour_Head} {x : Bool} (hx : g y0 = some x) : r76 g [.agg ⟨[.int .i64 y0.Class, .int .i64 y0.Mark, .bool y0.Whole, .int .i64 y0.TTL, .int .i64 y0.Proto, .bool y0.Src.V6, .int .u64 y0.Src.Hi, .int .u64 y0.Src.Lo, .bool y0.Dst.V6, .int .u64 y0.Dst.Hi, .int .u64 y0.Dst.Lo, .string ⟨⟨y0.Options⟩⟩]⟩] [] = some (rx76 x) := (dV_eq (uvipfour_Head_c _)).trans (ofG_eq hx)
def s76 (g : ipfour_Head → Option Bool) : Summ := ⟨[.v], r76 g⟩
theorem r76_eq {g : ipfour_Head → Option Bool} {y0 : ipfour_Head} {x : Bool} (hx : g y0 = some x) : (s76 g).run [.agg ⟨[.int .i64 y0.Class, .int .i64 y0.Mark, .bool y0.Whole, .int .i64 y0.TTL, .int .i64 y0.Proto, .bool y0.Src.V6, .int .u64 y0.Src.Hi, .int .u64 y0.Src.Lo, .bool y0.Dst.V6, .int .u64 y0.Dst.Hi, .int .u64 y0.Dst.Lo, .string ⟨⟨y0.Options⟩⟩]⟩] [] = some (rx76 x) := r76_c hx
abbrev sums76 (ipfour_four : api_Addr → Option Bool) (ipfour_within : Int → Int → Option Bool) : List (Nat × Summ) := [(118, s118 ipfour_four), (117, s117 ipfour_within)]
theorem leads76 (ipfour_four : api_Addr → Option Bool) (ipfour_within : Int → Int → Option Bool) (hS : SumsOK Try.prog (aget (sums76 ipfour_four ipfour_within))) (ha0 : ipfour_Head) (res : Bool) (h : ipfour_Head_mayF ipfour_four ipfour_within ha0 = some res) :
    Leads Try.prog 76 0 ⟨⟨76, 46, [(0, .agg ⟨[.int .i64 ha0.Class, .int .i64 ha0.Mark, .bool ha0.Whole, .int .i64 ha0.TTL, .int .i64 ha0.Proto, .bool ha0.Src.V6, .int .u64 ha0.Src.Hi, .int .u64 ha0.Src.Lo, .bool ha0.Dst.V6, .int .u64 ha0.Dst.Hi, .int .u64 ha0.Dst.Lo, .string ⟨⟨ha0.Options⟩⟩]⟩)], [.code k76_9], [], false, none⟩, [], [], 0⟩ (fun v H _ => Res 0 (rx76 res) v H) := by
  unfold ipfour_Head_mayF at h
  refine ev_ok tab_ok hS true 3000 ?_
  conv => whnf
  replace h := obind.elim h; obtain ⟨w, hy, h⟩ := h
  refine sumK.q rfl rfl (r117_eq hy) rfl rfl rfl ?_
  conv => whnf
  refine br.h h ?_ ?_ ?_
  · rfl
  · clear h; intro hb h; conv => whnf
    all_goals (cases h; exact Res.z rfl rfl rfl)
  clear h; intro hb h; conv => whnf
  replace h := obind.elim h; obtain ⟨w1, hy, h⟩ := h
  refine sumK.q rfl rfl (r117_eq hy) rfl rfl rfl ?_
  conv => whnf
  refine br.h h ?_ ?_ ?_
  · rfl
  · clear h; intro hb h; conv => whnf
    all_goals (cases h; exact Res.z rfl rfl rfl)
  clear h; intro hb h; conv => whnf
  replace h := obind.elim h; obtain ⟨w2, hy, h⟩ := h
  refine sumK.q rfl rfl (r117_eq hy) rfl rfl rfl ?_
  conv => whnf
  refine br.h h ?_ ?_ ?_
  · rfl
  · clear h; intro hb h; conv => whnf
    all_goals (cases h; exact Res.z rfl rfl rfl)
  clear h; intro hb h; conv => whnf
  replace h := obind.elim h; obtain ⟨w3, hy, h⟩ := h
  refine sumK.q rfl rfl (r117_eq hy) rfl rfl rfl ?_
  conv => whnf
  refine br.h h ?_ ?_ ?_
  · rfl
  · clear h; intro hb h; conv => whnf
    all_goals (cases h; exact Res.z rfl rfl rfl)
  clear h; intro hb h; conv => whnf
  replace h := obind.elim h; obtain ⟨f, hy, h⟩ := h
  refine sumK.q rfl rfl (r118_eq hy) rfl rfl rfl ?_
  conv => whnf
  refine br.h2 h ?_ ?_ ?_
  · rfl
  · clear h; intro hb h; conv => whnf
    all_goals (cases h; exact Res.z rfl rfl rfl)
  clear h; intro hb h; conv => whnf
  replace h := obind.elim h; obtain ⟨f1, hy, h⟩ := h
  refine sumK.q rfl rfl (r118_eq hy) rfl rfl rfl ?_
  conv => whnf
  refine br.h2 h ?_ ?_ ?_
  · rfl
  · clear h; intro hb h; conv => whnf
    all_goals (cases h; exact Res.z rfl rfl rfl)
  clear h; intro hb h; conv => whnf
  refine br.h h ?_ ?_ ?_
  · rfl
  · clear h; intro hb h; conv => whnf
    all_goals (cases h; exact Res.z rfl rfl rfl)
  clear h; intro hb h; conv => whnf
  all_goals (cases h; exact Res.z rfl rfl rfl)
theorem ok76 (ipfour_four : api_Addr → Option Bool) (ipfour_within : Int → Int → Option Bool) (hS : SumsOK Try.prog (aget (sums76 ipfour_four ipfour_within))) : SumOK Try.prog 76 (s76 (ipfour_Head_mayF ipfour_four ipfour_within)) := by
  refine SumOK.of_leads tab_ok (fun ar os r ha hr => ?_) ⟨Try.f76, rfl, by decide, rfl⟩
  replace hr : r76 (ipfour_Head_mayF ipfour_four ipfour_within) ar (conts os) = some r := hr
  unfold r76 at hr
  generalize hc : conts os = C at hr
  replace hr := dV.elim hr; obtain ⟨v0, l1, y0, rfl, e0, hr⟩ := hr; obtain rfl := uvipfour_Head_eq _ _ e0
  replace hr := dFin hr; obtain ⟨rfl, rfl, x, h, rfl⟩ := hr
  obtain rfl := kinds_nil hc
  exact ⟨_, rfl, leads76 ipfour_four ipfour_within hS _ x h⟩
def ipfour_Head_may : ipfour_Head → Option Bool := ipfour_Head_mayF ipfour_four ipfour_within
theorem lift76 : SumOK Try.prog 76 (s76 ipfour_Head_may) := ok76 ipfour_four ipfour_within (SumsOK.of_tab ⟨lift118, lift117, trivial⟩)
def ipfour_PutF (addr_Put : api_Addr → Option (List UInt8)) (check_Of : (List UInt8) → Option Int) (check_Set : (List UInt8) → Int → Int → Int → Option (List UInt8)) (ipfour_Head_may : ipfour_Head → Option Bool) (ipfour_row : (List Int) → Option (List UInt8)) (ha0 : ipfour_Head) (payload : List UInt8) : Option ((List UInt8) × Int) :=
  let t := wI .i64 (20 + (ha0.Options.length : Int))
  (ipfour_Head_may ha0).bind fun m =>
  cond (!m)
    (
    some (([], 1)))
    (
    let t1 := decide ((payload.length : Int) > (wI .i64 (65535 - t)))
    cond (t1)
      (
      some (([], 5)))
      (
      cond (ha0.Whole)
        (
        (ipfour_row [iorI .i64 64 (wI .i64 (t.tdiv 4)), 1, ha0.Class, 1, wI .i64 (t + (payload.length : Int)), 2, ha0.Mark, 2, 64, 1, 0, 1, ha0.TTL, 1, ha0.Proto, 1, 0, 2]).bind fun xr =>
        (addr_Put ha0.Src).bind fun p =>
        (addr_Put ha0.Dst).bind fun p1 =>
        oreq (decide (p.length + p1.length < 2 ^ 63)) <|
        oreq (decide ((p ++ p1).length + ha0.Options.length < 2 ^ 63)) <|
        oreq (decide (xr.length + ((p ++ p1) ++ ha0.Options).length < 2 ^ 63)) <|
        (check_Of (xr ++ ((p ++ p1) ++ ha0.Options))).bind fun xo =>
        (check_Set (xr ++ ((p ++ p1) ++ ha0.Options)) 10 2 (wI .u64 xo)).bind fun s =>
        oreq (decide (s.length + payload.length < 2 ^ 63)) <|
        some ((s ++ payload, 0)))
        (
        (ipfour_row [iorI .i64 64 (wI .i64 (t.tdiv 4)), 1, ha0.Class, 1, wI .i64 (t + (payload.length : Int)), 2, ha0.Mark, 2, 0, 1, 0, 1, ha0.TTL, 1, ha0.Proto, 1, 0, 2]).bind fun xr1 =>
        (addr_Put ha0.Src).bind fun p2 =>
        (addr_Put ha0.Dst).bind fun p3 =>
        oreq (decide (p2.length + p3.length < 2 ^ 63)) <|
        oreq (decide ((p2 ++ p3).length + ha0.Options.length < 2 ^ 63)) <|
        oreq (decide (xr1.length + ((p2 ++ p3) ++ ha0.Options).length < 2 ^ 63)) <|
        (check_Of (xr1 ++ ((p2 ++ p3) ++ ha0.Options))).bind fun xo1 =>
        (check_Set (xr1 ++ ((p2 ++ p3) ++ ha0.Options)) 10 2 (wI .u64 xo1)).bind fun s1 =>
        oreq (decide (s1.length + payload.length < 2 ^ 63)) <|
        some ((s1 ++ payload, 0)))))
def rx21 (x : (List UInt8) × Int) : SRes := ⟨.tuple ⟨[.string ⟨⟨x.1⟩⟩, .int .i64 x.2]⟩, [], []⟩
def r21 (g : ipfour_Head → (List UInt8) → Option ((List UInt8) × Int)) : Dec := dV uvipfour_Head fun (y0 : ipfour_Head) => dV asS fun (y1 : List UInt8) => dEnd (ofG (g y0 y1) rx21)
theorem r21_c {g : ipfour_Head → (List UInt8) → Option ((List UInt8) × Int)} {y0 : ipfour_Head} {y1 : List UInt8} {x : (List UInt8) × Int} (hx : g y0 y1 = some x) : r21 g [.agg ⟨[.int .i64 y0.Class, .int .i64 y0.Mark, .bool y0.Whole, .int .i64 y0.TTL, .int .i64 y0.Proto, .bool y0.Src.V6, .int .u64 y0.Src.Hi, .int .u64 y0.Src.Lo, .bool y0.Dst.V6, .int .u64 y0.Dst.Hi, .int .u64 y0.Dst.Lo, .string ⟨⟨y0.Options⟩⟩]⟩, .string ⟨⟨y1⟩⟩] [] = some (rx21 x) := (dV_eq (uvipfour_Head_c _)).trans ((dV_eq (asS_c)).trans (ofG_eq hx))
def s21 (g : ipfour_Head → (List UInt8) → Option ((List UInt8) × Int)) : Summ := ⟨[.v, .v], r21 g⟩
theorem r21_eq {g : ipfour_Head → (List UInt8) → Option ((List UInt8) × Int)} {y0 : ipfour_Head} {y1 : List UInt8} {x : (List UInt8) × Int} (hx : g y0 y1 = some x) : (s21 g).run [.agg ⟨[.int .i64 y0.Class, .int .i64 y0.Mark, .bool y0.Whole, .int .i64 y0.TTL, .int .i64 y0.Proto, .bool y0.Src.V6, .int .u64 y0.Src.Hi, .int .u64 y0.Src.Lo, .bool y0.Dst.V6, .int .u64 y0.Dst.Hi, .int .u64 y0.Dst.Lo, .string ⟨⟨y0.Options⟩⟩]⟩, .string ⟨⟨y1⟩⟩] [] = some (rx21 x) := r21_c hx
abbrev sums21 (addr_Put : api_Addr → Option (List UInt8)) (check_Of : (List UInt8) → Option Int) (check_Set : (List UInt8) → Int → Int → Int → Option (List UInt8)) (ipfour_Head_may : ipfour_Head → Option Bool) (ipfour_row : (List Int) → Option (List UInt8)) : List (Nat × Summ) := [(78, s78 addr_Put), (64, s64 check_Of), (65, s65 check_Set), (76, s76 ipfour_Head_may), (77, s77 ipfour_row)]
theorem leads21 (addr_Put : api_Addr → Option (List UInt8)) (check_Of : (List UInt8) → Option Int) (check_Set : (List UInt8) → Int → Int → Int → Option (List UInt8)) (ipfour_Head_may : ipfour_Head → Option Bool) (ipfour_row : (List Int) → Option (List UInt8)) (hS : SumsOK Try.prog (aget (sums21 addr_Put check_Of check_Set ipfour_Head_may ipfour_row))) (ha0 : ipfour_Head) (payload : List UInt8) (res : (List UInt8) × Int) (h : ipfour_PutF addr_Put check_Of check_Set ipfour_Head_may ipfour_row ha0 payload = some res) :
    Leads Try.prog 21 0 ⟨⟨21, 62, [(0, .agg ⟨[.int .i64 ha0.Class, .int .i64 ha0.Mark, .bool ha0.Whole, .int .i64 ha0.TTL, .int .i64 ha0.Proto, .bool ha0.Src.V6, .int .u64 ha0.Src.Hi, .int .u64 ha0.Src.Lo, .bool ha0.Dst.V6, .int .u64 ha0.Dst.Hi, .int .u64 ha0.Dst.Lo, .string ⟨⟨ha0.Options⟩⟩]⟩), (1, .string ⟨⟨payload⟩⟩)], [.code k21_28], [], false, none⟩, [], [], 0⟩ (fun v H _ => Res 0 (rx21 res) v H) := by
  unfold ipfour_PutF at h
  refine ev_ok tab_ok hS true 3000 ?_
  conv => whnf
  let t : Int := wI .i64 (20 + (ha0.Options.length : Int))
  replace h := obind.elim h; obtain ⟨m, hy, h⟩ := h
  refine sumK.q rfl rfl (r76_eq hy) rfl rfl rfl ?_
  conv => whnf
  refine br.h h ?_ ?_ ?_
  · rfl
  · clear h; intro hb h; conv => whnf
    all_goals (cases h; exact Res.z rfl rfl rfl)
  clear h; intro hb h; conv => whnf
  let t1 : Bool := decide ((payload.length : Int) > (wI .i64 (65535 - t)))
  refine br.h h ?_ ?_ ?_
  · rfl
  · clear h; intro hb h; conv => whnf
    all_goals (cases h; exact Res.z rfl rfl rfl)
  clear h; intro hb h; conv => whnf
  refine br.h h ?_ ?_ ?_
  · rfl
  · clear h; intro hb h; conv => whnf
    replace h := obind.elim h; obtain ⟨xr, hy, h⟩ := h
    refine sumK.introF [] (sumRun_of (aqs := [.slice (some ⟨0, 0, none⟩) ([iorI .i64 64 (wI .i64 (t.tdiv 4)), 1, ha0.Class, 1, wI .i64 (t + (payload.length : Int)), 2, ha0.Mark, 2, 64, 1, 0, 1, ha0.TTL, 1, ha0.Proto, 1, 0, 2] : List Int).length 1]) (ws := [.win 1 0 (18 * 1) false]) (n := 0) (m := 0) (t' := 2) (ra_cons (by first | rfl | exact ra_allI rfl rfl (by first | rfl | omega) (by first | rfl | (simp; done)) | exact ra_slI rfl rfl (by first | rfl | omega) (by first | rfl | omega) (by first | omega | (simp at *; omega))) rfl ra_nil) rfl (by rfl) (r77_eq hy) rfl rfl rfl rfl (wb_skip rfl wb_nil) an_nil rfl) ?_
    conv => whnf
    replace h := obind.elim h; obtain ⟨p, hy, h⟩ := h
    refine sumK.q rfl rfl (r78_eq hy) rfl rfl rfl ?_
    conv => whnf
    replace h := obind.elim h; obtain ⟨p1, hy, h⟩ := h
    refine sumK.q rfl rfl (r78_eq hy) rfl rfl rfl ?_
    conv => whnf
    replace h := oreq.elim h; obtain ⟨hb, h⟩ := h
    first | (refine req.intro hb ?_; conv => whnf) | skip
    replace h := oreq.elim h; obtain ⟨hb, h⟩ := h
    first | (refine req.intro hb ?_; conv => whnf) | skip
    replace h := oreq.elim h; obtain ⟨hb, h⟩ := h
    first | (refine req.intro hb ?_; conv => whnf) | skip
    replace h := obind.elim h; obtain ⟨xo, hy, h⟩ := h
    refine sumK.q rfl rfl (r64_eq hy) rfl rfl rfl ?_
    conv => whnf
    replace h := obind.elim h; obtain ⟨s, hy, h⟩ := h
    refine sumK.q rfl rfl (r65_eq hy) rfl rfl rfl ?_
    conv => whnf
    replace h := oreq.elim h; obtain ⟨hb, h⟩ := h
    first | (refine req.intro hb ?_; conv => whnf) | skip
    all_goals (cases h; exact Res.z rfl rfl rfl)
  clear h; intro hb h; conv => whnf
  replace h := obind.elim h; obtain ⟨xr1, hy, h⟩ := h
  refine sumK.introF [] (sumRun_of (aqs := [.slice (some ⟨0, 0, none⟩) ([iorI .i64 64 (wI .i64 (t.tdiv 4)), 1, ha0.Class, 1, wI .i64 (t + (payload.length : Int)), 2, ha0.Mark, 2, 0, 1, 0, 1, ha0.TTL, 1, ha0.Proto, 1, 0, 2] : List Int).length 1]) (ws := [.win 1 0 (18 * 1) false]) (n := 0) (m := 0) (t' := 2) (ra_cons (by first | rfl | exact ra_allI rfl rfl (by first | rfl | omega) (by first | rfl | (simp; done)) | exact ra_slI rfl rfl (by first | rfl | omega) (by first | rfl | omega) (by first | omega | (simp at *; omega))) rfl ra_nil) rfl (by rfl) (r77_eq hy) rfl rfl rfl rfl (wb_skip rfl wb_nil) an_nil rfl) ?_
  conv => whnf
  replace h := obind.elim h; obtain ⟨p2, hy, h⟩ := h
  refine sumK.q rfl rfl (r78_eq hy) rfl rfl rfl ?_
  conv => whnf
  replace h := obind.elim h; obtain ⟨p3, hy, h⟩ := h
  refine sumK.q rfl rfl (r78_eq hy) rfl rfl rfl ?_
  conv => whnf
  replace h := oreq.elim h; obtain ⟨hb, h⟩ := h
  first | (refine req.intro hb ?_; conv => whnf) | skip
  replace h := oreq.elim h; obtain ⟨hb, h⟩ := h
  first | (refine req.intro hb ?_; conv => whnf) | skip
  replace h := oreq.elim h; obtain ⟨hb, h⟩ := h
  first | (refine req.intro hb ?_; conv => whnf) | skip
  replace h := obind.elim h; obtain ⟨xo1, hy, h⟩ := h
  refine sumK.q rfl rfl (r64_eq hy) rfl rfl rfl ?_
  conv => whnf
  replace h := obind.elim h; obtain ⟨s1, hy, h⟩ := h
  refine sumK.q rfl rfl (r65_eq hy) rfl rfl rfl ?_
  conv => whnf
  replace h := oreq.elim h; obtain ⟨hb, h⟩ := h
  first | (refine req.intro hb ?_; conv => whnf) | skip
  all_goals (cases h; exact Res.z rfl rfl rfl)
theorem ok21 (addr_Put : api_Addr → Option (List UInt8)) (check_Of : (List UInt8) → Option Int) (check_Set : (List UInt8) → Int → Int → Int → Option (List UInt8)) (ipfour_Head_may : ipfour_Head → Option Bool) (ipfour_row : (List Int) → Option (List UInt8)) (hS : SumsOK Try.prog (aget (sums21 addr_Put check_Of check_Set ipfour_Head_may ipfour_row))) : SumOK Try.prog 21 (s21 (ipfour_PutF addr_Put check_Of check_Set ipfour_Head_may ipfour_row)) := by
  refine SumOK.of_leads tab_ok (fun ar os r ha hr => ?_) ⟨Try.f21, rfl, by decide, rfl⟩
  replace hr : r21 (ipfour_PutF addr_Put check_Of check_Set ipfour_Head_may ipfour_row) ar (conts os) = some r := hr
  unfold r21 at hr
  generalize hc : conts os = C at hr
  replace hr := dV.elim hr; obtain ⟨v0, l1, y0, rfl, e0, hr⟩ := hr; obtain rfl := uvipfour_Head_eq _ _ e0
  replace hr := dV.elim hr; obtain ⟨v1, l2, y1, rfl, e1, hr⟩ := hr; obtain rfl := asS_eq _ _ e1
  replace hr := dFin hr; obtain ⟨rfl, rfl, x, h, rfl⟩ := hr
  obtain rfl := kinds_nil hc
  exact ⟨_, rfl, leads21 addr_Put check_Of check_Set ipfour_Head_may ipfour_row hS _ _ x h⟩
def ipfour_Put : ipfour_Head → (List UInt8) → Option ((List UInt8) × Int) := ipfour_PutF addr_Put check_Of check_Set ipfour_Head_may ipfour_row
theorem lift21 : SumOK Try.prog 21 (s21 ipfour_Put) := ok21 addr_Put check_Of check_Set ipfour_Head_may ipfour_row (SumsOK.of_tab ⟨lift78, lift64, lift65, lift76, lift77, trivial⟩)
def R05_inF (n : Int) (most : Int) : Option Bool :=
  cond (decide (n ≥ 0))
    (
    some (decide (n ≤ most)))
    (
    some (false))
def rx119 (x : Bool) : SRes := ⟨.bool x, [], []⟩
def r119 (g : Int → Int → Option Bool) : Dec := dV (asI .i64) fun (y0 : Int) => dV (asI .i64) fun (y1 : Int) => dEnd (ofG (g y0 y1) rx119)
theorem r119_c {g : Int → Int → Option Bool} {y0 : Int} {y1 : Int} {x : Bool} (hx : g y0 y1 = some x) : r119 g [.int .i64 y0, .int .i64 y1] [] = some (rx119 x) := (dV_eq (asI_c _)).trans ((dV_eq (asI_c _)).trans (ofG_eq hx))
def s119 (g : Int → Int → Option Bool) : Summ := ⟨[.v, .v], r119 g⟩
theorem r119_eq {g : Int → Int → Option Bool} {y0 : Int} {y1 : Int} {x : Bool} (hx : g y0 y1 = some x) : (s119 g).run [.int .i64 y0, .int .i64 y1] [] = some (rx119 x) := r119_c hx
abbrev sums119 : List (Nat × Summ) := []
theorem leads119 (hS : SumsOK Try.prog (aget (sums119))) (n : Int) (most : Int) (res : Bool) (h : R05_inF n most = some res) :
    Leads Try.prog 119 0 ⟨⟨119, 12, [(0, .int .i64 n), (1, .int .i64 most)], [.code k119_3], [], false, none⟩, [], [], 0⟩ (fun v H _ => Res 0 (rx119 res) v H) := by
  unfold R05_inF at h
  refine ev_ok tab_ok hS true 3000 ?_
  conv => whnf
  refine br.h h ?_ ?_ ?_
  · rfl
  · clear h; intro hb h; conv => whnf
    all_goals (cases h; exact Res.z rfl rfl rfl)
  clear h; intro hb h; conv => whnf
  all_goals (cases h; exact Res.z rfl rfl rfl)
theorem ok119 (hS : SumsOK Try.prog (aget (sums119))) : SumOK Try.prog 119 (s119 (R05_inF)) := by
  refine SumOK.of_leads tab_ok (fun ar os r ha hr => ?_) ⟨Try.f119, rfl, by decide, rfl⟩
  replace hr : r119 (R05_inF) ar (conts os) = some r := hr
  unfold r119 at hr
  generalize hc : conts os = C at hr
  replace hr := dV.elim hr; obtain ⟨v0, l1, y0, rfl, e0, hr⟩ := hr; obtain rfl := asI_eq _ _ _ e0
  replace hr := dV.elim hr; obtain ⟨v1, l2, y1, rfl, e1, hr⟩ := hr; obtain rfl := asI_eq _ _ _ e1
  replace hr := dFin hr; obtain ⟨rfl, rfl, x, h, rfl⟩ := hr
  obtain rfl := kinds_nil hc
  exact ⟨_, rfl, leads119 hS _ _ x h⟩
def R05_in : Int → Int → Option Bool := R05_inF
theorem lift119 : SumOK Try.prog 119 (s119 R05_in) := ok119 (SumsOK.of_tab trivial)
end Go.Vm.Code
