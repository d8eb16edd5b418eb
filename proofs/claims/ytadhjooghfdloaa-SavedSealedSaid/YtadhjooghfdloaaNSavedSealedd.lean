import Derived.Test.YtadhjooghfdloaaNSavedSealedc
namespace Go.Vm.Code
open Go Go.Vm Go.Proofs
set_option maxRecDepth 100000
set_option maxHeartbeats 4000000
set_option linter.unusedVariables false
@[ext] structure api_Key where
  A : Int
  B : Int
  deriving DecidableEq
@[ext] structure api_Addr where
  V6 : Bool
  Hi : Int
  Lo : Int
  deriving DecidableEq
@[ext] structure api_Backend where
  ID : Int
  Weight : Int
  State : Int
  Addr : api_Addr
  deriving DecidableEq
@[ext] structure saved_Record where
  Key : api_Key
  Last : Int
  L : List api_Backend
  deriving DecidableEq
@[ext] structure Arr4_Int where
  e0 : Int
  e1 : Int
  e2 : Int
  e3 : Int
  deriving DecidableEq
@[ext] structure sip_Hasher where
  made : Bool
  s : Arr4_Int
  last : Int
  count : Int
  deriving DecidableEq
@[ext] structure octet_Reader where
  s : List UInt8
  made : Bool
  bad : Bool
  deriving DecidableEq
@[ext] structure R23_Step where
  Kind : Int
  ID : Int
  N : Int
  Addr : api_Addr
  On : Bool
  deriving DecidableEq
@[ext] structure health_Rule where
  Rise : Int
  Fall : Int
  deriving DecidableEq
@[ext] structure health_State where
  Up : Bool
  Run : Int
  deriving DecidableEq
@[ext] structure registry_row where
  Backend : api_Backend
  drains : Bool
  health : health_State
  deriving DecidableEq
@[ext] structure registry_Registry where
  rule : health_Rule
  rows : List registry_row
  last : Int
  version : Int
  deriving DecidableEq
def capi_Key (x : api_Key) : List Value := [.int .u64 x.A, .int .u64 x.B]
theorem capi_Key_len (x : api_Key) : (capi_Key x).length = 2 := rfl
theorem capi_Key_flat (x : api_Key) : flatV.flatL (capi_Key x) = true := rfl
theorem capi_Key_one (x : api_Key) : (capi_Key x).all oneC = true := rfl
@[simp] theorem capi_Key_lens (xs : List api_Key) : (vT capi_Key xs).length = xs.length * 2 := vT_len capi_Key_len xs
@[simp] theorem capi_Key_take (xs : List api_Key) (n : Nat) : (vT capi_Key xs).take (n * 2) = vT capi_Key (xs.take n) := vT_take capi_Key_len xs n
@[simp] theorem capi_Key_drop (xs : List api_Key) (n : Nat) : (vT capi_Key xs).drop (n * 2) = vT capi_Key (xs.drop n) := vT_drop capi_Key_len xs n
def unapi_Key : List Value → Option api_Key
  | [.int .u64 a1, .int .u64 a2] => some (api_Key.mk a1 a2)
  | _ => none
theorem unapi_Key_eq (cs : List Value) (x : api_Key) (h : unapi_Key cs = some x) : cs = capi_Key x := by
  unfold unapi_Key at h; split at h
  · cases h; rfl
  · cases h
def uvapi_Key : Value → Option api_Key
  | .agg ⟨cs⟩ => unapi_Key cs
  | _ => none
theorem uvapi_Key_eq (v : Value) (x : api_Key) (h : uvapi_Key v = some x) : v = .agg ⟨capi_Key x⟩ := by
  unfold uvapi_Key at h; split at h
  · rw [unapi_Key_eq _ _ h]
  · cases h
theorem uvapi_Key_c (x : api_Key) : uvapi_Key (.agg ⟨capi_Key x⟩) = some x := rfl
def capi_Addr (x : api_Addr) : List Value := [.bool x.V6, .int .u64 x.Hi, .int .u64 x.Lo]
theorem capi_Addr_len (x : api_Addr) : (capi_Addr x).length = 3 := rfl
theorem capi_Addr_flat (x : api_Addr) : flatV.flatL (capi_Addr x) = true := rfl
theorem capi_Addr_one (x : api_Addr) : (capi_Addr x).all oneC = true := rfl
@[simp] theorem capi_Addr_lens (xs : List api_Addr) : (vT capi_Addr xs).length = xs.length * 3 := vT_len capi_Addr_len xs
@[simp] theorem capi_Addr_take (xs : List api_Addr) (n : Nat) : (vT capi_Addr xs).take (n * 3) = vT capi_Addr (xs.take n) := vT_take capi_Addr_len xs n
@[simp] theorem capi_Addr_drop (xs : List api_Addr) (n : Nat) : (vT capi_Addr xs).drop (n * 3) = vT capi_Addr (xs.drop n) := vT_drop capi_Addr_len xs n
def unapi_Addr : List Value → Option api_Addr
  | [.bool a1, .int .u64 a2, .int .u64 a3] => some (api_Addr.mk a1 a2 a3)
  | _ => none
theorem unapi_Addr_eq (cs : List Value) (x : api_Addr) (h : unapi_Addr cs = some x) : cs = capi_Addr x := by
  unfold unapi_Addr at h; split at h
  · cases h; rfl
  · cases h
def uvapi_Addr : Value → Option api_Addr
  | .agg ⟨cs⟩ => unapi_Addr cs
  | _ => none
theorem uvapi_Addr_eq (v : Value) (x : api_Addr) (h : uvapi_Addr v = some x) : v = .agg ⟨capi_Addr x⟩ := by
  unfold uvapi_Addr at h; split at h
  · rw [unapi_Addr_eq _ _ h]
  · cases h
theorem uvapi_Addr_c (x : api_Addr) : uvapi_Addr (.agg ⟨capi_Addr x⟩) = some x := rfl
def capi_Backend (x : api_Backend) : List Value := [.int .i64 x.ID, .int .i64 x.Weight, .int .i64 x.State, .bool x.Addr.V6, .int .u64 x.Addr.Hi, .int .u64 x.Addr.Lo]
theorem capi_Backend_len (x : api_Backend) : (capi_Backend x).length = 6 := rfl
theorem capi_Backend_flat (x : api_Backend) : flatV.flatL (capi_Backend x) = true := rfl
theorem capi_Backend_one (x : api_Backend) : (capi_Backend x).all oneC = true := rfl
@[simp] theorem capi_Backend_lens (xs : List api_Backend) : (vT capi_Backend xs).length = xs.length * 6 := vT_len capi_Backend_len xs
@[simp] theorem capi_Backend_take (xs : List api_Backend) (n : Nat) : (vT capi_Backend xs).take (n * 6) = vT capi_Backend (xs.take n) := vT_take capi_Backend_len xs n
@[simp] theorem capi_Backend_drop (xs : List api_Backend) (n : Nat) : (vT capi_Backend xs).drop (n * 6) = vT capi_Backend (xs.drop n) := vT_drop capi_Backend_len xs n
def unapi_Backend : List Value → Option api_Backend
  | [.int .i64 a1, .int .i64 a2, .int .i64 a3, .bool a4, .int .u64 a5, .int .u64 a6] => some (api_Backend.mk a1 a2 a3 (api_Addr.mk a4 a5 a6))
  | _ => none
theorem unapi_Backend_eq (cs : List Value) (x : api_Backend) (h : unapi_Backend cs = some x) : cs = capi_Backend x := by
  unfold unapi_Backend at h; split at h
  · cases h; rfl
  · cases h
theorem unapi_Backend_c (x : api_Backend) : unapi_Backend (capi_Backend x) = some x := rfl
def cArr4_Int (x : Arr4_Int) : List Value := [.int .u64 x.e0, .int .u64 x.e1, .int .u64 x.e2, .int .u64 x.e3]
theorem cArr4_Int_len (x : Arr4_Int) : (cArr4_Int x).length = 4 := rfl
theorem cArr4_Int_flat (x : Arr4_Int) : flatV.flatL (cArr4_Int x) = true := rfl
theorem cArr4_Int_one (x : Arr4_Int) : (cArr4_Int x).all oneC = true := rfl
@[simp] theorem cArr4_Int_lens (xs : List Arr4_Int) : (vT cArr4_Int xs).length = xs.length * 4 := vT_len cArr4_Int_len xs
@[simp] theorem cArr4_Int_take (xs : List Arr4_Int) (n : Nat) : (vT cArr4_Int xs).take (n * 4) = vT cArr4_Int (xs.take n) := vT_take cArr4_Int_len xs n
@[simp] theorem cArr4_Int_drop (xs : List Arr4_Int) (n : Nat) : (vT cArr4_Int xs).drop (n * 4) = vT cArr4_Int (xs.drop n) := vT_drop cArr4_Int_len xs n
def unArr4_Int : List Value → Option Arr4_Int
  | [.int .u64 a1, .int .u64 a2, .int .u64 a3, .int .u64 a4] => some (Arr4_Int.mk a1 a2 a3 a4)
  | _ => none
theorem unArr4_Int_eq (cs : List Value) (x : Arr4_Int) (h : unArr4_Int cs = some x) : cs = cArr4_Int x := by
  unfold unArr4_Int at h; split at h
  · cases h; rfl
  · cases h
theorem unArr4_Int_c (x : Arr4_Int) : unArr4_Int (cArr4_Int x) = some x := rfl
def csip_Hasher (x : sip_Hasher) : List Value := [.bool x.made, .int .u64 x.s.e0, .int .u64 x.s.e1, .int .u64 x.s.e2, .int .u64 x.s.e3, .int .u64 x.last, .int .i64 x.count]
theorem csip_Hasher_len (x : sip_Hasher) : (csip_Hasher x).length = 7 := rfl
theorem csip_Hasher_flat (x : sip_Hasher) : flatV.flatL (csip_Hasher x) = true := rfl
theorem csip_Hasher_one (x : sip_Hasher) : (csip_Hasher x).all oneC = true := rfl
@[simp] theorem csip_Hasher_lens (xs : List sip_Hasher) : (vT csip_Hasher xs).length = xs.length * 7 := vT_len csip_Hasher_len xs
@[simp] theorem csip_Hasher_take (xs : List sip_Hasher) (n : Nat) : (vT csip_Hasher xs).take (n * 7) = vT csip_Hasher (xs.take n) := vT_take csip_Hasher_len xs n
@[simp] theorem csip_Hasher_drop (xs : List sip_Hasher) (n : Nat) : (vT csip_Hasher xs).drop (n * 7) = vT csip_Hasher (xs.drop n) := vT_drop csip_Hasher_len xs n
def unsip_Hasher : List Value → Option sip_Hasher
  | [.bool a1, .int .u64 a2, .int .u64 a3, .int .u64 a4, .int .u64 a5, .int .u64 a6, .int .i64 a7] => some (sip_Hasher.mk a1 (Arr4_Int.mk a2 a3 a4 a5) a6 a7)
  | _ => none
theorem unsip_Hasher_eq (cs : List Value) (x : sip_Hasher) (h : unsip_Hasher cs = some x) : cs = csip_Hasher x := by
  unfold unsip_Hasher at h; split at h
  · cases h; rfl
  · cases h
theorem unsip_Hasher_c (x : sip_Hasher) : unsip_Hasher (csip_Hasher x) = some x := rfl
def coctet_Reader (x : octet_Reader) : List Value := [.string ⟨⟨x.s⟩⟩, .bool x.made, .bool x.bad]
theorem coctet_Reader_len (x : octet_Reader) : (coctet_Reader x).length = 3 := rfl
theorem coctet_Reader_flat (x : octet_Reader) : flatV.flatL (coctet_Reader x) = true := rfl
theorem coctet_Reader_one (x : octet_Reader) : (coctet_Reader x).all oneC = true := rfl
@[simp] theorem coctet_Reader_lens (xs : List octet_Reader) : (vT coctet_Reader xs).length = xs.length * 3 := vT_len coctet_Reader_len xs
@[simp] theorem coctet_Reader_take (xs : List octet_Reader) (n : Nat) : (vT coctet_Reader xs).take (n * 3) = vT coctet_Reader (xs.take n) := vT_take coctet_Reader_len xs n
@[simp] theorem coctet_Reader_drop (xs : List octet_Reader) (n : Nat) : (vT coctet_Reader xs).drop (n * 3) = vT coctet_Reader (xs.drop n) := vT_drop coctet_Reader_len xs n
def unoctet_Reader : List Value → Option octet_Reader
  | [.string ⟨⟨a1⟩⟩, .bool a2, .bool a3] => some (octet_Reader.mk a1 a2 a3)
  | _ => none
theorem unoctet_Reader_eq (cs : List Value) (x : octet_Reader) (h : unoctet_Reader cs = some x) : cs = coctet_Reader x := by
  unfold unoctet_Reader at h; split at h
  · cases h; rfl
  · cases h
theorem unoctet_Reader_c (x : octet_Reader) : unoctet_Reader (coctet_Reader x) = some x := rfl
def cR23_Step (x : R23_Step) : List Value := [.int .i64 x.Kind, .int .i64 x.ID, .int .i64 x.N, .bool x.Addr.V6, .int .u64 x.Addr.Hi, .int .u64 x.Addr.Lo, .bool x.On]
theorem cR23_Step_len (x : R23_Step) : (cR23_Step x).length = 7 := rfl
theorem cR23_Step_flat (x : R23_Step) : flatV.flatL (cR23_Step x) = true := rfl
theorem cR23_Step_one (x : R23_Step) : (cR23_Step x).all oneC = true := rfl
@[simp] theorem cR23_Step_lens (xs : List R23_Step) : (vT cR23_Step xs).length = xs.length * 7 := vT_len cR23_Step_len xs
@[simp] theorem cR23_Step_take (xs : List R23_Step) (n : Nat) : (vT cR23_Step xs).take (n * 7) = vT cR23_Step (xs.take n) := vT_take cR23_Step_len xs n
@[simp] theorem cR23_Step_drop (xs : List R23_Step) (n : Nat) : (vT cR23_Step xs).drop (n * 7) = vT cR23_Step (xs.drop n) := vT_drop cR23_Step_len xs n
def chealth_Rule (x : health_Rule) : List Value := [.int .i64 x.Rise, .int .i64 x.Fall]
theorem chealth_Rule_len (x : health_Rule) : (chealth_Rule x).length = 2 := rfl
theorem chealth_Rule_flat (x : health_Rule) : flatV.flatL (chealth_Rule x) = true := rfl
theorem chealth_Rule_one (x : health_Rule) : (chealth_Rule x).all oneC = true := rfl
@[simp] theorem chealth_Rule_lens (xs : List health_Rule) : (vT chealth_Rule xs).length = xs.length * 2 := vT_len chealth_Rule_len xs
@[simp] theorem chealth_Rule_take (xs : List health_Rule) (n : Nat) : (vT chealth_Rule xs).take (n * 2) = vT chealth_Rule (xs.take n) := vT_take chealth_Rule_len xs n
@[simp] theorem chealth_Rule_drop (xs : List health_Rule) (n : Nat) : (vT chealth_Rule xs).drop (n * 2) = vT chealth_Rule (xs.drop n) := vT_drop chealth_Rule_len xs n
def chealth_State (x : health_State) : List Value := [.bool x.Up, .int .i64 x.Run]
theorem chealth_State_len (x : health_State) : (chealth_State x).length = 2 := rfl
theorem chealth_State_flat (x : health_State) : flatV.flatL (chealth_State x) = true := rfl
theorem chealth_State_one (x : health_State) : (chealth_State x).all oneC = true := rfl
@[simp] theorem chealth_State_lens (xs : List health_State) : (vT chealth_State xs).length = xs.length * 2 := vT_len chealth_State_len xs
@[simp] theorem chealth_State_take (xs : List health_State) (n : Nat) : (vT chealth_State xs).take (n * 2) = vT chealth_State (xs.take n) := vT_take chealth_State_len xs n
@[simp] theorem chealth_State_drop (xs : List health_State) (n : Nat) : (vT chealth_State xs).drop (n * 2) = vT chealth_State (xs.drop n) := vT_drop chealth_State_len xs n
def cregistry_row (x : registry_row) : List Value := [.int .i64 x.Backend.ID, .int .i64 x.Backend.Weight, .int .i64 x.Backend.State, .bool x.Backend.Addr.V6, .int .u64 x.Backend.Addr.Hi, .int .u64 x.Backend.Addr.Lo, .bool x.drains, .bool x.health.Up, .int .i64 x.health.Run]
theorem cregistry_row_len (x : registry_row) : (cregistry_row x).length = 9 := rfl
theorem cregistry_row_flat (x : registry_row) : flatV.flatL (cregistry_row x) = true := rfl
theorem cregistry_row_one (x : registry_row) : (cregistry_row x).all oneC = true := rfl
@[simp] theorem cregistry_row_lens (xs : List registry_row) : (vT cregistry_row xs).length = xs.length * 9 := vT_len cregistry_row_len xs
@[simp] theorem cregistry_row_take (xs : List registry_row) (n : Nat) : (vT cregistry_row xs).take (n * 9) = vT cregistry_row (xs.take n) := vT_take cregistry_row_len xs n
@[simp] theorem cregistry_row_drop (xs : List registry_row) (n : Nat) : (vT cregistry_row xs).drop (n * 9) = vT cregistry_row (xs.drop n) := vT_drop cregistry_row_len xs n
def udsaved_Record (k : Nat) : Value → List (Option (List Value)) → Option saved_Record
  | .agg ⟨[.int .u64 a1, .int .u64 a2, .int .i64 a3, .slice (some ⟨k0, 0, none⟩) n0 s0]⟩, [some c0] => match (unR 6 unapi_Backend) c0 with | some x0 => (if k0 = k + 0 ∧ n0 = x0.length ∧ s0 = 6 then some (saved_Record.mk (api_Key.mk a1 a2) a3 x0) else none) | none => none
  | _, _ => none
theorem udsaved_Record_eq {k : Nat} {v : Value} {cs : List (Option (List Value))} {x : saved_Record} (h : udsaved_Record k v cs = some x) : v = .agg ⟨[.int .u64 x.Key.A, .int .u64 x.Key.B, .int .i64 x.Last, .slice (some ⟨k + 0, 0, none⟩) x.L.length 6]⟩ ∧ cs = [some (vT capi_Backend x.L)] := by
  unfold udsaved_Record at h; split at h <;> try (cases h; done)
  split at h <;> try (cases h; done)
  rename_i x0 e0
  split at h <;> cases h
  rename_i hk
  obtain ⟨rfl, rfl, rfl⟩ := hk
  obtain rfl := unT_eq unapi_Backend_eq e0
  exact ⟨rfl, rfl⟩
theorem udsaved_Record_c (k : Nat) (x : saved_Record) : udsaved_Record k (.agg ⟨[.int .u64 x.Key.A, .int .u64 x.Key.B, .int .i64 x.Last, .slice (some ⟨k + 0, 0, none⟩) x.L.length 6]⟩) [some (vT capi_Backend x.L)] = some x := by
  simp only [udsaved_Record, unR_vT capi_Backend_len (by decide) unapi_Backend_c]; simp
theorem lrA0 {P : Program} {f base fn nt : Nat} {e e' : Env} {todo todo' : List VItem} {ds ds' : List Nat} {ret : Bool} {up up' : List VFrame} {H H' : Hp} {top top' : Nat} {R : Value → Hp → Nat → Prop}
    (h : Leads P f base ⟨⟨fn, nt, e', todo', ds', ret, none⟩, up', H', top'⟩ R) (m : List (Nat × Nat)) (hc : chkM base top' m = true) (he : reE (aget m) e e' := by repeat' first | exact trivial | refine ⟨⟨_, rfl, rfl⟩, ?_⟩ | refine ⟨⟨_, _, rfl, rfl, .rowF (vI_flat _ _) id⟩, ?_⟩ | refine ⟨⟨_, _, rfl, rfl, .rowF (vS_flat _) id⟩, ?_⟩ | refine ⟨⟨_, _, rfl, rfl, .rowF (vB_flat _) id⟩, ?_⟩ | refine ⟨⟨_, _, rfl, rfl, .rowF (vT_flat (by first | exact capi_Key_flat | exact capi_Addr_flat | exact capi_Backend_flat | exact cArr4_Int_flat | exact csip_Hasher_flat | exact coctet_Reader_flat | exact cR23_Step_flat | exact chealth_Rule_flat | exact chealth_State_flat | exact cregistry_row_flat) _) id⟩, ?_⟩ | refine ⟨⟨_, _, rfl, rfl, .tyF (vI_flat _ _)⟩, ?_⟩ | refine ⟨⟨_, _, rfl, rfl, .ty rfl⟩, ?_⟩ | refine ⟨⟨_, _, rfl, rfl, .cells rfl⟩, ?_⟩ | refine ⟨⟨_, _, rfl, rfl, .row rfl id⟩, ?_⟩ | refine ⟨⟨_, _, rfl, rfl, .cr rfl⟩, ?_⟩ | refine ⟨⟨_, _, rfl, rfl, .rc rfl⟩, ?_⟩ | refine ⟨⟨_, _, rfl, rfl, .marks⟩, ?_⟩ | refine ⟨⟨_, _, rfl, rfl, .siter _ _⟩, ?_⟩ | refine ⟨⟨_, _, rfl, rfl, .loop rfl rfl rfl rfl (by repeat' first | exact trivial | refine ⟨rfl, ?_⟩) rfl rfl rfl rfl⟩, ?_⟩) (hH : reH (aget m) H H' := by repeat' first | exact trivial | refine ⟨⟨_, rfl, rfl⟩, ?_⟩ | refine ⟨⟨_, _, rfl, rfl, .rowF (vI_flat _ _) id⟩, ?_⟩ | refine ⟨⟨_, _, rfl, rfl, .rowF (vS_flat _) id⟩, ?_⟩ | refine ⟨⟨_, _, rfl, rfl, .rowF (vB_flat _) id⟩, ?_⟩ | refine ⟨⟨_, _, rfl, rfl, .rowF (vT_flat (by first | exact capi_Key_flat | exact capi_Addr_flat | exact capi_Backend_flat | exact cArr4_Int_flat | exact csip_Hasher_flat | exact coctet_Reader_flat | exact cR23_Step_flat | exact chealth_Rule_flat | exact chealth_State_flat | exact cregistry_row_flat) _) id⟩, ?_⟩ | refine ⟨⟨_, _, rfl, rfl, .tyF (vI_flat _ _)⟩, ?_⟩ | refine ⟨⟨_, _, rfl, rfl, .ty rfl⟩, ?_⟩ | refine ⟨⟨_, _, rfl, rfl, .cells rfl⟩, ?_⟩ | refine ⟨⟨_, _, rfl, rfl, .row rfl id⟩, ?_⟩ | refine ⟨⟨_, _, rfl, rfl, .cr rfl⟩, ?_⟩ | refine ⟨⟨_, _, rfl, rfl, .rc rfl⟩, ?_⟩ | refine ⟨⟨_, _, rfl, rfl, .marks⟩, ?_⟩ | refine ⟨⟨_, _, rfl, rfl, .siter _ _⟩, ?_⟩ | refine ⟨⟨_, _, rfl, rfl, .loop rfl rfl rfl rfl (by repeat' first | exact trivial | refine ⟨rfl, ?_⟩) rfl rfl rfl rfl⟩, ?_⟩)
    (ht : renT (aget m) todo' = some todo := by rfl) (hd : renN (aget m) ds' = some ds := by rfl) (hu : reU (aget m) up up' := by trivial) :
    Leads P f base ⟨⟨fn, nt, e, todo, ds, ret, none⟩, up, H, top⟩ R := Leads.re h m hc he hH ht hd hu
theorem lrA1 {P : Program} {f base fn nt : Nat} {e e' : Env} {todo todo' : List VItem} {ds ds' : List Nat} {ret : Bool} {up up' : List VFrame} {H H' : Hp} {top top' : Nat} {R : Value → Hp → Nat → Prop}
    (h : Leads P f base ⟨⟨fn, nt, e', todo', ds', ret, none⟩, up', H', top'⟩ R) (m : List (Nat × Nat)) (hc : chkM base top' m = true) (he : reE (aget m) e e' := by repeat' first | exact trivial | refine ⟨⟨_, rfl, rfl⟩, ?_⟩ | refine ⟨⟨_, _, rfl, rfl, .rowF (vI_flat _ _) id⟩, ?_⟩ | refine ⟨⟨_, _, rfl, rfl, .rowF (vS_flat _) id⟩, ?_⟩ | refine ⟨⟨_, _, rfl, rfl, .rowF (vB_flat _) id⟩, ?_⟩ | refine ⟨⟨_, _, rfl, rfl, .rowF (vT_flat (by first | exact capi_Key_flat | exact capi_Addr_flat | exact capi_Backend_flat | exact cArr4_Int_flat | exact csip_Hasher_flat | exact coctet_Reader_flat | exact cR23_Step_flat | exact chealth_Rule_flat | exact chealth_State_flat | exact cregistry_row_flat) _) id⟩, ?_⟩ | refine ⟨⟨_, _, rfl, rfl, .tyF (vI_flat _ _)⟩, ?_⟩ | refine ⟨⟨_, _, rfl, rfl, .ty rfl⟩, ?_⟩ | refine ⟨⟨_, _, rfl, rfl, .cells rfl⟩, ?_⟩ | refine ⟨⟨_, _, rfl, rfl, .row rfl id⟩, ?_⟩ | refine ⟨⟨_, _, rfl, rfl, .cr rfl⟩, ?_⟩ | refine ⟨⟨_, _, rfl, rfl, .rc rfl⟩, ?_⟩ | refine ⟨⟨_, _, rfl, rfl, .marks⟩, ?_⟩ | refine ⟨⟨_, _, rfl, rfl, .siter _ _⟩, ?_⟩ | refine ⟨⟨_, _, rfl, rfl, .loop rfl rfl rfl rfl (by repeat' first | exact trivial | refine ⟨rfl, ?_⟩) rfl rfl rfl rfl⟩, ?_⟩) (hH : reH (aget m) H H' := by repeat' first | exact trivial | refine ⟨⟨_, rfl, rfl⟩, ?_⟩ | refine ⟨⟨_, _, rfl, rfl, .rowF (vI_flat _ _) id⟩, ?_⟩ | refine ⟨⟨_, _, rfl, rfl, .rowF (vS_flat _) id⟩, ?_⟩ | refine ⟨⟨_, _, rfl, rfl, .rowF (vB_flat _) id⟩, ?_⟩ | refine ⟨⟨_, _, rfl, rfl, .rowF (vT_flat (by first | exact capi_Key_flat | exact capi_Addr_flat | exact capi_Backend_flat | exact cArr4_Int_flat | exact csip_Hasher_flat | exact coctet_Reader_flat | exact cR23_Step_flat | exact chealth_Rule_flat | exact chealth_State_flat | exact cregistry_row_flat) _) id⟩, ?_⟩ | refine ⟨⟨_, _, rfl, rfl, .tyF (vI_flat _ _)⟩, ?_⟩ | refine ⟨⟨_, _, rfl, rfl, .ty rfl⟩, ?_⟩ | refine ⟨⟨_, _, rfl, rfl, .cells rfl⟩, ?_⟩ | refine ⟨⟨_, _, rfl, rfl, .row rfl id⟩, ?_⟩ | refine ⟨⟨_, _, rfl, rfl, .cr rfl⟩, ?_⟩ | refine ⟨⟨_, _, rfl, rfl, .rc rfl⟩, ?_⟩ | refine ⟨⟨_, _, rfl, rfl, .marks⟩, ?_⟩ | refine ⟨⟨_, _, rfl, rfl, .siter _ _⟩, ?_⟩ | refine ⟨⟨_, _, rfl, rfl, .loop rfl rfl rfl rfl (by repeat' first | exact trivial | refine ⟨rfl, ?_⟩) rfl rfl rfl rfl⟩, ?_⟩)
    (ht : renT (aget m) todo' = some todo := by rfl) (hd : renN (aget m) ds' = some ds := by rfl) (hu : reU (aget m) up up' := by repeat' first | exact trivial | refine ⟨⟨rfl, rfl, rfl, rfl, rfl, ?_, rfl, rfl⟩, ?_⟩ | refine ⟨⟨_, rfl, rfl⟩, ?_⟩) :
    Leads P f base ⟨⟨fn, nt, e, todo, ds, ret, none⟩, up, H, top⟩ R := Leads.re h m hc he hH ht hd hu
def octet_Put_s1 (n : Int) (k : Int) (t17 : Int) (b : List Int) : Option (Sum (Int × (List Int)) (List UInt8)) :=
  cond (decide (t17 < (k.toNat : Int)))
    (
    let t := wI .i64 (8 * (wI .i64 ((wI .i64 (k - 1)) - t17)))
    oreq (decide (0 ≤ t)) <|
    oreq (decide ((0 : Int) ≤ t17 ∧ t17 < (k.toNat : Int))) <|
    oreq (decide (t17.toNat < b.length)) <|
    let row := b.set t17.toNat (wI .u8 (n.fdiv (2 ^ (min t.toNat 64))))
    some (.inl (wI .i64 (t17 + 1), row)))
    (
    oreq (decide (k.toNat ≤ b.length)) <|
    some (.inr (iB (b.take k.toNat))))
def octet_PutF (n : Int) (k : Int) : Option (List UInt8) :=
  cond (decide (k < 1))
    (
    some ([]))
    (
    cond (decide (k > 8))
      (
      some ([]))
      (
      oreq (decide (0 ≤ k ∧ k ≤ k ∧ k < 2 ^ 63 ∧ (1 : Int) * k ≤ 2 ^ 48)) <|
      iter (fun st => octet_Put_s1 n k st.1 st.2) FUEL (0, List.replicate k.toNat (0))))
def rx109 (x : List UInt8) : SRes := ⟨.string ⟨⟨x⟩⟩, [], []⟩
def r109 (g : Int → Int → Option (List UInt8)) : Dec := dV (asI .u64) fun (y0 : Int) => dV (asI .i64) fun (y1 : Int) => dEnd (ofG (g y0 y1) rx109)
theorem r109_c {g : Int → Int → Option (List UInt8)} {y0 : Int} {y1 : Int} {x : List UInt8} (hx : g y0 y1 = some x) : r109 g [.int .u64 y0, .int .i64 y1] [] = some (rx109 x) := (dV_eq (asI_c _)).trans ((dV_eq (asI_c _)).trans (ofG_eq hx))
def s109 (g : Int → Int → Option (List UInt8)) : Summ := ⟨[.v, .v], r109 g⟩
theorem r109_eq {g : Int → Int → Option (List UInt8)} {y0 : Int} {y1 : Int} {x : List UInt8} (hx : g y0 y1 = some x) : (s109 g).run [.int .u64 y0, .int .i64 y1] [] = some (rx109 x) := r109_c hx
abbrev sums109 : List (Nat × Summ) := []
def head109_1 (n : Int) (k : Int) (t17 : Int) (b : List Int) : VM :=
  ⟨⟨109, 34, [(0, .int .u64 n), (1, .int .i64 k), (5, .slice (some ⟨0, 0, none⟩) k.toNat 1), (16, .int .i64 (k.toNat : Int)), (17, .int .i64 t17)], [.code k109_17, .inLoop k109_17, .inBlock 0, .code k109_22], [], false, none⟩, [], [(0, .row true (vI .u8 b))], 1⟩
theorem loop109_1 (hS : SumsOK Try.prog (aget (sums109))) (n : Int) (k : Int) (res : List UInt8) : ∀ fuel (st : Int × (List Int)) (o : List UInt8), iter (fun st => octet_Put_s1 n k st.1 st.2) fuel st = some o → (o = res) →
    Leads Try.prog 109 0 (head109_1 n k st.1 st.2) (fun v H _ => Res 0 (rx109 res) v H) := by
  intro fuel st o h hc
  refine iter_leads (head := fun st => head109_1 n k st.1 st.2) (C := fun o => (o = res)) ?_ fuel st o h hc
  clear h hc o st fuel
  intro st o h hc
  obtain ⟨t17, b⟩ := st
  replace h : octet_Put_s1 n k t17 b = some o := h
  show Leads Try.prog 109 0 (head109_1 n k t17 b) (fun v H _ => Res 0 (rx109 res) v H)
  unfold octet_Put_s1 at h
  refine ev_ok tab_ok hS true 3000 ?_
  conv => whnf
  refine br.h2 h ?_ ?_ ?_
  · rfl
  · clear h; intro hb h; conv => whnf
    replace h := oreq.elim h; obtain ⟨hb, h⟩ := h
    refine req.intro (by (first | rfl | (simp [wI, vI, vB, vS, bI, oneC, addrBlk, cellsL, Value.cells] at *; omega) | (simp [vI, vB, vS, bI, oneC, addrBlk, cellsL, Value.cells] at *; omega) | (simp [vI, vB, vS, bI, oneC, addrBlk, cellsL, Value.cells] at *; done))) ?_
    conv => whnf
    refine pk_b2s ?_
    conv => whnf
    all_goals (cases h; cases hc; exact Res.z rfl rfl rfl)
  clear h; intro hb h; conv => whnf
  let t : Int := wI .i64 (8 * (wI .i64 ((wI .i64 (k - 1)) - t17)))
  replace h := oreq.elim h; obtain ⟨hb, h⟩ := h
  first | (refine req.intro hb ?_; conv => whnf) | skip
  replace h := oreq.elim h; obtain ⟨hb, h⟩ := h
  first | (refine req.intro hb ?_; conv => whnf) | skip
  replace h := oreq.elim h; obtain ⟨hb, h⟩ := h
  refine st_I hb (by first | rfl | (rw [Nat.zero_add, Nat.mul_one]; try rfl; done) | omega) ?_
  conv => whnf
  let row : List Int := b.set t17.toNat (wI .u8 (n.fdiv (2 ^ (min t.toNat 64))))
  cases h; simp only [Sum.elim_inl, head109_1] at hc
  exact lrA0 hc [(0, 0)] rfl
theorem leads109 (hS : SumsOK Try.prog (aget (sums109))) (n : Int) (k : Int) (res : List UInt8) (h : octet_PutF n k = some res) :
    Leads Try.prog 109 0 ⟨⟨109, 34, [(0, .int .u64 n), (1, .int .i64 k)], [.code k109_26], [], false, none⟩, [], [], 0⟩ (fun v H _ => Res 0 (rx109 res) v H) := by
  unfold octet_PutF at h
  refine ev_ok tab_ok hS true 3000 ?_
  conv => whnf
  refine br.h h ?_ ?_ ?_
  · rfl
  · clear h; intro hb h; conv => whnf
    all_goals (cases h; exact Res.z rfl rfl rfl)
  clear h; intro hb h; conv => whnf
  refine br.h h ?_ ?_ ?_
  · rfl
  · clear h; intro hb h; conv => whnf
    all_goals (cases h; exact Res.z rfl rfl rfl)
  clear h; intro hb h; conv => whnf
  replace h := oreq.elim h; obtain ⟨hb, h⟩ := h
  first | (refine req.intro hb ?_; conv => whnf) | skip
  refine pk_mkI ?_
  conv => whnf
  have hl := loop109_1 hS _ _ res _ _ _ h rfl; simp only [head109_1] at hl
  exact lrA0 hl [(0, 0)] rfl
theorem ok109 (hS : SumsOK Try.prog (aget (sums109))) : SumOK Try.prog 109 (s109 (octet_PutF)) := by
  refine SumOK.of_leads tab_ok (fun ar os r ha hr => ?_) ⟨Try.f109, rfl, by decide, rfl⟩
  replace hr : r109 (octet_PutF) ar (conts os) = some r := hr
  unfold r109 at hr
  generalize hc : conts os = C at hr
  replace hr := dV.elim hr; obtain ⟨v0, l1, y0, rfl, e0, hr⟩ := hr; obtain rfl := asI_eq _ _ _ e0
  replace hr := dV.elim hr; obtain ⟨v1, l2, y1, rfl, e1, hr⟩ := hr; obtain rfl := asI_eq _ _ _ e1
  replace hr := dFin hr; obtain ⟨rfl, rfl, x, h, rfl⟩ := hr
  obtain rfl := kinds_nil hc
  exact ⟨_, rfl, leads109 hS _ _ x h⟩
def octet_Put : Int → Int → Option (List UInt8) := octet_PutF
theorem lift109 : SumOK Try.prog 109 (s109 octet_Put) := ok109 (SumsOK.of_tab trivial)
def octet_Get_s1 (t1 : List UInt8) (n : Int) (t37 : Int) : Option (Sum (Int × Int) (Int × Bool)) :=
  cond (decide (t37 < (t1.length : Int)))
    (
    oreq (decide ((0 : Int) ≤ t37 ∧ t37 < (t1.length : Int))) <|
    ((bI t1)[t37.toNat]?).bind fun (e : Int) =>
    let t2 := iorI .u64 (wI .u64 (n * 2 ^ 8)) (wI .u64 e)
    some (.inl (t2, wI .i64 (t37 + 1))))
    (
    some (.inr ((n, true))))
def octet_GetF (s : List UInt8) (ata1 : Int) (k : Int) : Option (Int × Bool) :=
  cond (decide (k < 1))
    (
    some ((0, false)))
    (
    cond (decide (k > 8))
      (
      some ((0, false)))
      (
      cond (decide (ata1 < 0))
        (
        some ((0, false)))
        (
        let t := decide ((wI .i64 ((s.length : Int) - k)) < ata1)
        cond (t)
          (
          some ((0, false)))
          (
          oreq (decide ((0 : Int) ≤ (wI .i64 (ata1 + k)) ∧ (wI .i64 (ata1 + k)) ≤ (s.length : Int) ∧ (0 : Int) ≤ ata1 ∧ ata1 ≤ ((wI .i64 (ata1 + k)).toNat : Int))) <|
          let t1 := (s.drop ata1.toNat).take ((wI .i64 (ata1 + k)).toNat - ata1.toNat)
          iter (fun st => octet_Get_s1 t1 st.1 st.2) FUEL (0, 0)))))
def rx99 (x : Int × Bool) : SRes := ⟨.tuple ⟨[.int .u64 x.1, .bool x.2]⟩, [], []⟩
def r99 (g : (List UInt8) → Int → Int → Option (Int × Bool)) : Dec := dV asS fun (y0 : List UInt8) => dV (asI .i64) fun (y1 : Int) => dV (asI .i64) fun (y2 : Int) => dEnd (ofG (g y0 y1 y2) rx99)
theorem r99_c {g : (List UInt8) → Int → Int → Option (Int × Bool)} {y0 : List UInt8} {y1 : Int} {y2 : Int} {x : Int × Bool} (hx : g y0 y1 y2 = some x) : r99 g [.string ⟨⟨y0⟩⟩, .int .i64 y1, .int .i64 y2] [] = some (rx99 x) := (dV_eq (asS_c)).trans ((dV_eq (asI_c _)).trans ((dV_eq (asI_c _)).trans (ofG_eq hx)))
def s99 (g : (List UInt8) → Int → Int → Option (Int × Bool)) : Summ := ⟨[.v, .v, .v], r99 g⟩
theorem r99_eq {g : (List UInt8) → Int → Int → Option (Int × Bool)} {y0 : List UInt8} {y1 : Int} {y2 : Int} {x : Int × Bool} (hx : g y0 y1 y2 = some x) : (s99 g).run [.string ⟨⟨y0⟩⟩, .int .i64 y1, .int .i64 y2] [] = some (rx99 x) := r99_c hx
abbrev sums99 : List (Nat × Summ) := []
def head99_1 (t1 : List UInt8) (n : Int) (t37 : Int) : VM :=
  ⟨⟨99, 48, [(8, .int .u64 n), (35, .slice (some ⟨0, 0, none⟩) t1.length 1), (36, .int .i64 (t1.length : Int)), (37, .int .i64 t37)], [.code k99_17, .inLoop k99_17, .inBlock 0, .code k99_22], [], false, none⟩, [], [(0, .row true (vI .u8 (bI t1)))], 1⟩
theorem loop99_1 (hS : SumsOK Try.prog (aget (sums99))) (t1 : List UInt8) (res : Int × Bool) : ∀ fuel (st : Int × Int) (o : Int × Bool), iter (fun st => octet_Get_s1 t1 st.1 st.2) fuel st = some o → (o = res) →
    Leads Try.prog 99 0 (head99_1 t1 st.1 st.2) (fun v H _ => Res 0 (rx99 res) v H) := by
  intro fuel st o h hc
  refine iter_leads (head := fun st => head99_1 t1 st.1 st.2) (C := fun o => (o = res)) ?_ fuel st o h hc
  clear h hc o st fuel
  intro st o h hc
  obtain ⟨n, t37⟩ := st
  replace h : octet_Get_s1 t1 n t37 = some o := h
  show Leads Try.prog 99 0 (head99_1 t1 n t37) (fun v H _ => Res 0 (rx99 res) v H)
  unfold octet_Get_s1 at h
  refine ev_ok tab_ok hS true 3000 ?_
  conv => whnf
  refine br.h2 h ?_ ?_ ?_
  · rfl
  · clear h; intro hb h; conv => whnf
    all_goals (cases h; cases hc; exact Res.z rfl rfl rfl)
  clear h; intro hb h; conv => whnf
  replace h := oreq.elim h; obtain ⟨hb, h⟩ := h
  first | (refine req.intro hb ?_; conv => whnf) | skip
  replace h := obind.elim h; obtain ⟨e, hy, h⟩ := h
  refine rd.I hy (by first | rfl | (rw [Nat.zero_add, Nat.mul_one]; try rfl; done) | omega) ?_
  conv => whnf
  let t2 : Int := iorI .u64 (wI .u64 (n * 2 ^ 8)) (wI .u64 e)
  cases h; simp only [Sum.elim_inl, head99_1] at hc
  exact lrA0 hc [(0, 0)] rfl
theorem leads99 (hS : SumsOK Try.prog (aget (sums99))) (s : List UInt8) (ata1 : Int) (k : Int) (res : Int × Bool) (h : octet_GetF s ata1 k = some res) :
    Leads Try.prog 99 0 ⟨⟨99, 48, [(0, .string ⟨⟨s⟩⟩), (1, .int .i64 ata1), (2, .int .i64 k)], [.code k99_26], [], false, none⟩, [], [], 0⟩ (fun v H _ => Res 0 (rx99 res) v H) := by
  unfold octet_GetF at h
  refine ev_ok tab_ok hS true 3000 ?_
  conv => whnf
  refine br.h h ?_ ?_ ?_
  · rfl
  · clear h; intro hb h; conv => whnf
    all_goals (cases h; exact Res.z rfl rfl rfl)
  clear h; intro hb h; conv => whnf
  refine br.h h ?_ ?_ ?_
  · rfl
  · clear h; intro hb h; conv => whnf
    all_goals (cases h; exact Res.z rfl rfl rfl)
  clear h; intro hb h; conv => whnf
  refine br.h h ?_ ?_ ?_
  · rfl
  · clear h; intro hb h; conv => whnf
    all_goals (cases h; exact Res.z rfl rfl rfl)
  clear h; intro hb h; conv => whnf
  let t : Bool := decide ((wI .i64 ((s.length : Int) - k)) < ata1)
  refine br.h h ?_ ?_ ?_
  · rfl
  · clear h; intro hb h; conv => whnf
    all_goals (cases h; exact Res.z rfl rfl rfl)
  clear h; intro hb h; conv => whnf
  replace h := oreq.elim h; obtain ⟨hb, h⟩ := h
  first | (refine req.intro hb ?_; conv => whnf) | skip
  let t1 : List UInt8 := (s.drop ata1.toNat).take ((wI .i64 (ata1 + k)).toNat - ata1.toNat)
  refine pk_s2b ?_
  conv => whnf
  have hl := loop99_1 hS _ res _ _ _ h rfl; simp only [head99_1] at hl
  exact lrA0 hl [(0, 0)] rfl
theorem ok99 (hS : SumsOK Try.prog (aget (sums99))) : SumOK Try.prog 99 (s99 (octet_GetF)) := by
  refine SumOK.of_leads tab_ok (fun ar os r ha hr => ?_) ⟨Try.f99, rfl, by decide, rfl⟩
  replace hr : r99 (octet_GetF) ar (conts os) = some r := hr
  unfold r99 at hr
  generalize hc : conts os = C at hr
  replace hr := dV.elim hr; obtain ⟨v0, l1, y0, rfl, e0, hr⟩ := hr; obtain rfl := asS_eq _ _ e0
  replace hr := dV.elim hr; obtain ⟨v1, l2, y1, rfl, e1, hr⟩ := hr; obtain rfl := asI_eq _ _ _ e1
  replace hr := dV.elim hr; obtain ⟨v2, l3, y2, rfl, e2, hr⟩ := hr; obtain rfl := asI_eq _ _ _ e2
  replace hr := dFin hr; obtain ⟨rfl, rfl, x, h, rfl⟩ := hr
  obtain rfl := kinds_nil hc
  exact ⟨_, rfl, leads99 hS _ _ _ x h⟩
def octet_Get : (List UInt8) → Int → Int → Option (Int × Bool) := octet_GetF
theorem lift99 : SumOK Try.prog 99 (s99 octet_Get) := ok99 (SumsOK.of_tab trivial)
def R02_Put_s1 (k : Int) (n1 : Int) (s : List UInt8) (i : Int) : Option (Sum (Int × (List UInt8) × Int) (List UInt8)) :=
  cond (decide (i < k))
    (
    cond (decide (k ≤ 8))
      (
      let t := [UInt8.ofNat (wI .u8 (n1.tmod 256)).toNat]
      oreq (decide (t.length + s.length < 2 ^ 63)) <|
      some (.inl (wI .u64 (n1.tdiv 256), t ++ s, wI .i64 (i + 1))))
      (
      some (.inr (s))))
    (
    some (.inr (s)))
def R02_PutF (n : Int) (k : Int) : Option (List UInt8) :=
  iter (fun st => R02_Put_s1 k st.1 st.2.1 st.2.2) FUEL (n, [], 0)
def rx104 (x : List UInt8) : SRes := ⟨.string ⟨⟨x⟩⟩, [], []⟩
def r104 (g : Int → Int → Option (List UInt8)) : Dec := dV (asI .u64) fun (y0 : Int) => dV (asI .i64) fun (y1 : Int) => dEnd (ofG (g y0 y1) rx104)
theorem r104_c {g : Int → Int → Option (List UInt8)} {y0 : Int} {y1 : Int} {x : List UInt8} (hx : g y0 y1 = some x) : r104 g [.int .u64 y0, .int .i64 y1] [] = some (rx104 x) := (dV_eq (asI_c _)).trans ((dV_eq (asI_c _)).trans (ofG_eq hx))
def s104 (g : Int → Int → Option (List UInt8)) : Summ := ⟨[.v, .v], r104 g⟩
theorem r104_eq {g : Int → Int → Option (List UInt8)} {y0 : Int} {y1 : Int} {x : List UInt8} (hx : g y0 y1 = some x) : (s104 g).run [.int .u64 y0, .int .i64 y1] [] = some (rx104 x) := r104_c hx
abbrev sums104 : List (Nat × Summ) := []
def head104_1 (k : Int) (n1 : Int) (s : List UInt8) (i : Int) : VM :=
  ⟨⟨104, 26, [(0, .int .u64 n1), (1, .int .i64 k), (5, .string ⟨⟨s⟩⟩), (6, .int .i64 i)], [.code k104_12, .inLoop k104_12, .inBlock 0, .code k104_17], [], false, none⟩, [], [], 0⟩
theorem loop104_1 (hS : SumsOK Try.prog (aget (sums104))) (k : Int) (res : List UInt8) : ∀ fuel (st : Int × (List UInt8) × Int) (o : List UInt8), iter (fun st => R02_Put_s1 k st.1 st.2.1 st.2.2) fuel st = some o → (o = res) →
    Leads Try.prog 104 0 (head104_1 k st.1 st.2.1 st.2.2) (fun v H _ => Res 0 (rx104 res) v H) := by
  intro fuel st o h hc
  refine iter_leads (head := fun st => head104_1 k st.1 st.2.1 st.2.2) (C := fun o => (o = res)) ?_ fuel st o h hc
  clear h hc o st fuel
  intro st o h hc
  obtain ⟨n1, s, i⟩ := st
  replace h : R02_Put_s1 k n1 s i = some o := h
  show Leads Try.prog 104 0 (head104_1 k n1 s i) (fun v H _ => Res 0 (rx104 res) v H)
  unfold R02_Put_s1 at h
  refine ev_ok tab_ok hS true 3000 ?_
  conv => whnf
  refine br.h2 h ?_ ?_ ?_
  · rfl
  · clear h; intro hb h; conv => whnf
    all_goals (cases h; cases hc; exact Res.z rfl rfl rfl)
  clear h; intro hb h; conv => whnf
  refine br.h2 h ?_ ?_ ?_
  · rfl
  · clear h; intro hb h; conv => whnf
    all_goals (cases h; cases hc; exact Res.z rfl rfl rfl)
  clear h; intro hb h; conv => whnf
  refine pk_b2sL rfl ?_
  conv => whnf
  let t : List UInt8 := [UInt8.ofNat (wI .u8 (n1.tmod 256)).toNat]
  replace h := oreq.elim h; obtain ⟨hb, h⟩ := h
  first | (refine req.intro hb ?_; conv => whnf) | skip
  cases h; simp only [Sum.elim_inl, head104_1] at hc
  exact lrA0 hc [] rfl
theorem leads104 (hS : SumsOK Try.prog (aget (sums104))) (n : Int) (k : Int) (res : List UInt8) (h : R02_PutF n k = some res) :
    Leads Try.prog 104 0 ⟨⟨104, 26, [(0, .int .u64 n), (1, .int .i64 k)], [.code k104_20], [], false, none⟩, [], [], 0⟩ (fun v H _ => Res 0 (rx104 res) v H) := by
  unfold R02_PutF at h
  refine ev_ok tab_ok hS true 3000 ?_
  conv => whnf
  have hl := loop104_1 hS _ res _ _ _ h rfl; simp only [head104_1] at hl
  exact lrA0 hl [] rfl
theorem ok104 (hS : SumsOK Try.prog (aget (sums104))) : SumOK Try.prog 104 (s104 (R02_PutF)) := by
  refine SumOK.of_leads tab_ok (fun ar os r ha hr => ?_) ⟨Try.f104, rfl, by decide, rfl⟩
  replace hr : r104 (R02_PutF) ar (conts os) = some r := hr
  unfold r104 at hr
  generalize hc : conts os = C at hr
  replace hr := dV.elim hr; obtain ⟨v0, l1, y0, rfl, e0, hr⟩ := hr; obtain rfl := asI_eq _ _ _ e0
  replace hr := dV.elim hr; obtain ⟨v1, l2, y1, rfl, e1, hr⟩ := hr; obtain rfl := asI_eq _ _ _ e1
  replace hr := dFin hr; obtain ⟨rfl, rfl, x, h, rfl⟩ := hr
  obtain rfl := kinds_nil hc
  exact ⟨_, rfl, leads104 hS _ _ x h⟩
def R02_Put : Int → Int → Option (List UInt8) := R02_PutF
theorem lift104 : SumOK Try.prog 104 (s104 R02_Put) := ok104 (SumsOK.of_tab trivial)
def R02_Get_s1 (s : List UInt8) (ata1 : Int) (k : Int) (n : Int) (i : Int) : Option (Sum (Int × Int) (Int × Bool)) :=
  cond (decide (i < k))
    (
    oreq (decide (0 ≤ (wI .i64 (ata1 + i)))) <|
    (s[(wI .i64 (ata1 + i)).toNat]?).bind fun (b : UInt8) =>
    let t1 := wI .u64 ((wI .u64 (n * 256)) + (wI .u64 (b.toNat : Int)))
    some (.inl (t1, wI .i64 (i + 1))))
    (
    some (.inr ((n, true))))
def R02_GetF (s : List UInt8) (ata1 : Int) (k : Int) : Option (Int × Bool) :=
  cond (decide (k < 1))
    (
    some ((0, false)))
    (
    cond (decide (k > 8))
      (
      some ((0, false)))
      (
      cond (decide (ata1 < 0))
        (
        some ((0, false)))
        (
        cond (decide (ata1 > (s.length : Int)))
          (
          some ((0, false)))
          (
          let t := decide (k > (wI .i64 ((s.length : Int) - ata1)))
          cond (t)
            (
            some ((0, false)))
            (
            iter (fun st => R02_Get_s1 s ata1 k st.1 st.2) FUEL (0, 0))))))
def rx105 (x : Int × Bool) : SRes := ⟨.tuple ⟨[.int .u64 x.1, .bool x.2]⟩, [], []⟩
def r105 (g : (List UInt8) → Int → Int → Option (Int × Bool)) : Dec := dV asS fun (y0 : List UInt8) => dV (asI .i64) fun (y1 : Int) => dV (asI .i64) fun (y2 : Int) => dEnd (ofG (g y0 y1 y2) rx105)
theorem r105_c {g : (List UInt8) → Int → Int → Option (Int × Bool)} {y0 : List UInt8} {y1 : Int} {y2 : Int} {x : Int × Bool} (hx : g y0 y1 y2 = some x) : r105 g [.string ⟨⟨y0⟩⟩, .int .i64 y1, .int .i64 y2] [] = some (rx105 x) := (dV_eq (asS_c)).trans ((dV_eq (asI_c _)).trans ((dV_eq (asI_c _)).trans (ofG_eq hx)))
def s105 (g : (List UInt8) → Int → Int → Option (Int × Bool)) : Summ := ⟨[.v, .v, .v], r105 g⟩
theorem r105_eq {g : (List UInt8) → Int → Int → Option (Int × Bool)} {y0 : List UInt8} {y1 : Int} {y2 : Int} {x : Int × Bool} (hx : g y0 y1 y2 = some x) : (s105 g).run [.string ⟨⟨y0⟩⟩, .int .i64 y1, .int .i64 y2] [] = some (rx105 x) := r105_c hx
abbrev sums105 : List (Nat × Summ) := []
def head105_1 (s : List UInt8) (ata1 : Int) (k : Int) (n : Int) (i : Int) : VM :=
  ⟨⟨105, 49, [(0, .string ⟨⟨s⟩⟩), (1, .int .i64 ata1), (2, .int .i64 k), (8, .int .u64 n), (9, .int .i64 i)], [.code k105_15, .inLoop k105_15, .inBlock 0, .code k105_20], [], false, none⟩, [], [], 0⟩
theorem loop105_1 (hS : SumsOK Try.prog (aget (sums105))) (s : List UInt8) (ata1 : Int) (k : Int) (res : Int × Bool) : ∀ fuel (st : Int × Int) (o : Int × Bool), iter (fun st => R02_Get_s1 s ata1 k st.1 st.2) fuel st = some o → (o = res) →
    Leads Try.prog 105 0 (head105_1 s ata1 k st.1 st.2) (fun v H _ => Res 0 (rx105 res) v H) := by
  intro fuel st o h hc
  refine iter_leads (head := fun st => head105_1 s ata1 k st.1 st.2) (C := fun o => (o = res)) ?_ fuel st o h hc
  clear h hc o st fuel
  intro st o h hc
  obtain ⟨n, i⟩ := st
  replace h : R02_Get_s1 s ata1 k n i = some o := h
  show Leads Try.prog 105 0 (head105_1 s ata1 k n i) (fun v H _ => Res 0 (rx105 res) v H)
  unfold R02_Get_s1 at h
  refine ev_ok tab_ok hS true 3000 ?_
  conv => whnf
  refine br.h2 h ?_ ?_ ?_
  · rfl
  · clear h; intro hb h; conv => whnf
    all_goals (cases h; cases hc; exact Res.z rfl rfl rfl)
  clear h; intro hb h; conv => whnf
  replace h := oreq.elim h; obtain ⟨hb, h⟩ := h
  first | (refine req.intro hb ?_; conv => whnf) | skip
  replace h := obind.elim h; obtain ⟨b, hy, h⟩ := h
  refine rdS.intro hy ?_
  conv => whnf
  let t1 : Int := wI .u64 ((wI .u64 (n * 256)) + (wI .u64 (b.toNat : Int)))
  cases h; simp only [Sum.elim_inl, head105_1] at hc
  exact lrA0 hc [] rfl
theorem leads105 (hS : SumsOK Try.prog (aget (sums105))) (s : List UInt8) (ata1 : Int) (k : Int) (res : Int × Bool) (h : R02_GetF s ata1 k = some res) :
    Leads Try.prog 105 0 ⟨⟨105, 49, [(0, .string ⟨⟨s⟩⟩), (1, .int .i64 ata1), (2, .int .i64 k)], [.code k105_24], [], false, none⟩, [], [], 0⟩ (fun v H _ => Res 0 (rx105 res) v H) := by
  unfold R02_GetF at h
  refine ev_ok tab_ok hS true 3000 ?_
  conv => whnf
  refine br.h h ?_ ?_ ?_
  · rfl
  · clear h; intro hb h; conv => whnf
    all_goals (cases h; exact Res.z rfl rfl rfl)
  clear h; intro hb h; conv => whnf
  refine br.h h ?_ ?_ ?_
  · rfl
  · clear h; intro hb h; conv => whnf
    all_goals (cases h; exact Res.z rfl rfl rfl)
  clear h; intro hb h; conv => whnf
  refine br.h h ?_ ?_ ?_
  · rfl
  · clear h; intro hb h; conv => whnf
    all_goals (cases h; exact Res.z rfl rfl rfl)
  clear h; intro hb h; conv => whnf
  refine br.h h ?_ ?_ ?_
  · rfl
  · clear h; intro hb h; conv => whnf
    all_goals (cases h; exact Res.z rfl rfl rfl)
  clear h; intro hb h; conv => whnf
  let t : Bool := decide (k > (wI .i64 ((s.length : Int) - ata1)))
  refine br.h h ?_ ?_ ?_
  · rfl
  · clear h; intro hb h; conv => whnf
    all_goals (cases h; exact Res.z rfl rfl rfl)
  clear h; intro hb h; conv => whnf
  have hl := loop105_1 hS _ _ _ res _ _ _ h rfl; simp only [head105_1] at hl
  exact lrA0 hl [] rfl
theorem ok105 (hS : SumsOK Try.prog (aget (sums105))) : SumOK Try.prog 105 (s105 (R02_GetF)) := by
  refine SumOK.of_leads tab_ok (fun ar os r ha hr => ?_) ⟨Try.f105, rfl, by decide, rfl⟩
  replace hr : r105 (R02_GetF) ar (conts os) = some r := hr
  unfold r105 at hr
  generalize hc : conts os = C at hr
  replace hr := dV.elim hr; obtain ⟨v0, l1, y0, rfl, e0, hr⟩ := hr; obtain rfl := asS_eq _ _ e0
  replace hr := dV.elim hr; obtain ⟨v1, l2, y1, rfl, e1, hr⟩ := hr; obtain rfl := asI_eq _ _ _ e1
  replace hr := dV.elim hr; obtain ⟨v2, l3, y2, rfl, e2, hr⟩ := hr; obtain rfl := asI_eq _ _ _ e2
  replace hr := dFin hr; obtain ⟨rfl, rfl, x, h, rfl⟩ := hr
  obtain rfl := kinds_nil hc
  exact ⟨_, rfl, leads105 hS _ _ _ x h⟩
def R02_Get : (List UInt8) → Int → Int → Option (Int × Bool) := R02_GetF
theorem lift105 : SumOK Try.prog 105 (s105 R02_Get) := ok105 (SumsOK.of_tab trivial)
def R02_MustF (R02_Get : (List UInt8) → Int → Int → Option (Int × Bool)) (s : List UInt8) (ata1 : Int) (k : Int) : Option Int :=
  (R02_Get s ata1 k).bind fun xg =>
  some (wI .i64 xg.1)
def rx106 (x : Int) : SRes := ⟨.int .i64 x, [], []⟩
def r106 (g : (List UInt8) → Int → Int → Option Int) : Dec := dV asS fun (y0 : List UInt8) => dV (asI .i64) fun (y1 : Int) => dV (asI .i64) fun (y2 : Int) => dEnd (ofG (g y0 y1 y2) rx106)
theorem r106_c {g : (List UInt8) → Int → Int → Option Int} {y0 : List UInt8} {y1 : Int} {y2 : Int} {x : Int} (hx : g y0 y1 y2 = some x) : r106 g [.string ⟨⟨y0⟩⟩, .int .i64 y1, .int .i64 y2] [] = some (rx106 x) := (dV_eq (asS_c)).trans ((dV_eq (asI_c _)).trans ((dV_eq (asI_c _)).trans (ofG_eq hx)))
def s106 (g : (List UInt8) → Int → Int → Option Int) : Summ := ⟨[.v, .v, .v], r106 g⟩
theorem r106_eq {g : (List UInt8) → Int → Int → Option Int} {y0 : List UInt8} {y1 : Int} {y2 : Int} {x : Int} (hx : g y0 y1 y2 = some x) : (s106 g).run [.string ⟨⟨y0⟩⟩, .int .i64 y1, .int .i64 y2] [] = some (rx106 x) := r106_c hx
abbrev sums106 (R02_Get : (List UInt8) → Int → Int → Option (Int × Bool)) : List (Nat × Summ) := [(105, s105 R02_Get)]
theorem leads106 (R02_Get : (List UInt8) → Int → Int → Option (Int × Bool)) (hS : SumsOK Try.prog (aget (sums106 R02_Get))) (s : List UInt8) (ata1 : Int) (k : Int) (res : Int) (h : R02_MustF R02_Get s ata1 k = some res) :
    Leads Try.prog 106 0 ⟨⟨106, 18, [(0, .string ⟨⟨s⟩⟩), (1, .int .i64 ata1), (2, .int .i64 k)], [.code k106_5], [], false, none⟩, [], [], 0⟩ (fun v H _ => Res 0 (rx106 res) v H) := by
  unfold R02_MustF at h
  refine ev_ok tab_ok hS true 3000 ?_
  conv => whnf
  replace h := obind.elim h; obtain ⟨xg, hy, h⟩ := h
  refine sumK.q rfl rfl (r105_eq hy) rfl rfl rfl ?_
  conv => whnf
  all_goals (cases h; exact Res.z rfl rfl rfl)
theorem ok106 (R02_Get : (List UInt8) → Int → Int → Option (Int × Bool)) (hS : SumsOK Try.prog (aget (sums106 R02_Get))) : SumOK Try.prog 106 (s106 (R02_MustF R02_Get)) := by
  refine SumOK.of_leads tab_ok (fun ar os r ha hr => ?_) ⟨Try.f106, rfl, by decide, rfl⟩
  replace hr : r106 (R02_MustF R02_Get) ar (conts os) = some r := hr
  unfold r106 at hr
  generalize hc : conts os = C at hr
  replace hr := dV.elim hr; obtain ⟨v0, l1, y0, rfl, e0, hr⟩ := hr; obtain rfl := asS_eq _ _ e0
  replace hr := dV.elim hr; obtain ⟨v1, l2, y1, rfl, e1, hr⟩ := hr; obtain rfl := asI_eq _ _ _ e1
  replace hr := dV.elim hr; obtain ⟨v2, l3, y2, rfl, e2, hr⟩ := hr; obtain rfl := asI_eq _ _ _ e2
  replace hr := dFin hr; obtain ⟨rfl, rfl, x, h, rfl⟩ := hr
  obtain rfl := kinds_nil hc
  exact ⟨_, rfl, leads106 R02_Get hS _ _ _ x h⟩
def R02_Must : (List UInt8) → Int → Int → Option Int := R02_MustF R02_Get
theorem lift106 : SumOK Try.prog 106 (s106 R02_Must) := ok106 R02_Get (SumsOK.of_tab ⟨lift105, trivial⟩)
end Go.Vm.Code
namespace Go.Vm.Code
open Go Go.Vm
def putS (n k : Int) : List UInt8 := if 1 ≤ k ∧ k ≤ 8 then be n.toNat k.toNat else []
theorem octet_Put_eq {n k : Int} (h0 : 0 ≤ n) : octet_Put n k = some (putS n k) := by
  unfold octet_Put octet_PutF putS
  by_cases h1 : k < 1
  · rw [cond_p h1, if_neg (by omega)]
  by_cases h2 : k > 8
  · rw [cond_n h1, cond_p h2, if_neg (by omega)]
  rw [cond_n h1, cond_n h2, oreq_p (by omega), if_pos (by omega)]
  obtain ⟨m, rfl⟩ := Int.eq_ofNat_of_zero_le h0
  obtain ⟨j, rfl⟩ := Int.eq_ofNat_of_zero_le (show 0 ≤ k by omega)
  have key := iter_eq (step := fun (st : Int × List Int) => octet_Put_s1 (m : Int) (j : Int) st.1 st.2) (fun st => iB (st.2.take st.1.toNat) ++ be m (j - st.1.toNat)) (fun st => 0 ≤ st.1 ∧ st.1 ≤ j ∧ st.2.length = j) (fun st => (j - st.1).toNat) ?_ FUEL (0, List.replicate (j : Int).toNat 0) ⟨by simp, by simp, by simp⟩ (by rw [FUEL_eq]; simp only; omega)
  · rw [key]; simp [iB]
  rintro ⟨p, b⟩ ⟨g1, g2, g3⟩
  simp only at g1 g2 g3 ⊢
  obtain ⟨i, rfl⟩ := Int.eq_ofNat_of_zero_le g1
  unfold octet_Put_s1
  by_cases hp : i < j
  · refine .inr ⟨(((i + 1 : Nat) : Int), b.set i ((m / 256 ^ (j - 1 - i) % 256 : Nat) : Int)), ?_, ⟨by simp only; omega, by simp only; omega, by simp [g3]⟩, by simp only; omega, ?_⟩
    · simp (disch := omega) only [wI64, oreq_p, cond_p, Int.toNat_natCast]
      have e1 : min (8 * ((j : Int) - 1 - i)).toNat 64 = 8 * (j - 1 - i) := by omega
      have e0 : (2 : Int) ^ (8 * (j - 1 - i)) = ((256 ^ (j - 1 - i) : Nat) : Int) := by rw [show (256 : Nat) = 2 ^ 8 from rfl, ← Nat.pow_mul]; push_cast; rfl
      rw [e1, fdivP, wU8m, e0]
      rfl
    · simp only [Int.toNat_natCast]
      have e2 : j - i = (j - (i + 1)) + 1 := by omega
      have e3 : j - (i + 1) = j - 1 - i := by omega
      have e4 : (b.set i ((m / 256 ^ (j - 1 - i) % 256 : Nat) : Int)).take (i + 1) = b.take i ++ [((m / 256 ^ (j - 1 - i) % 256 : Nat) : Int)] := by
        rw [List.take_succ_eq_append_getElem (by simp; omega), List.take_set_of_le (Nat.le_refl _), List.getElem_set_self]
      rw [e2, e4, be, e3]
      simp only [iB, List.map_append, List.map_cons, List.map_nil, List.append_assoc, List.cons_append, List.nil_append, Int.toNat_natCast]
      congr 2
      apply UInt8.toNat_inj.1
      simp
  · refine .inl ?_
    obtain rfl : i = j := by omega
    simp (disch := omega) only [cond_n, oreq_p, Int.toNat_natCast]
    simp [be]
theorem R02_Put_eq {n k : Int} (h0 : 0 ≤ n) (h1 : n < 2 ^ 64) : R02_Put n k = some (putS n k) := by
  unfold R02_Put R02_PutF putS
  obtain ⟨m, rfl⟩ := Int.eq_ofNat_of_zero_le h0
  by_cases hk : 1 ≤ k ∧ k ≤ 8
  · rw [if_pos hk]
    obtain ⟨j, rfl⟩ := Int.eq_ofNat_of_zero_le (show 0 ≤ k by omega)
    have key := iter_eq (step := fun st => R02_Put_s1 (j : Int) st.1 st.2.1 st.2.2) (fun st => be st.1.toNat (j - st.2.2.toNat) ++ st.2.1) (fun st => 0 ≤ st.1 ∧ st.1 < 2 ^ 64 ∧ 0 ≤ st.2.2 ∧ st.2.2 ≤ j ∧ st.2.1.length < 2 ^ 20 + st.2.2.toNat) (fun st => (j - st.2.2).toNat) ?_ FUEL ((m : Int), [], 0) ⟨by simp, by simp only; omega, by simp, by simp, by simp⟩ (by rw [FUEL_eq]; simp only; omega)
    · rw [key]; simp
    rintro ⟨n, s, p⟩ ⟨g1, g2, g3, g4, g5⟩
    simp only at g1 g2 g3 g4 g5 ⊢
    obtain ⟨i, rfl⟩ := Int.eq_ofNat_of_zero_le g3
    obtain ⟨x, rfl⟩ := Int.eq_ofNat_of_zero_le g1
    unfold R02_Put_s1
    by_cases hp : i < j
    · refine .inr ⟨(((x / 256 : Nat) : Int), UInt8.ofNat x :: s, ((i + 1 : Nat) : Int)), ?_, ⟨by simp only; omega, by simp only; omega, by simp only; omega, by simp only; omega, by simp at g5 ⊢; omega⟩, by simp only; omega, ?_⟩
      · have e1 : (x : Int).tmod 256 = ((x % 256 : Nat) : Int) := by rw [Int.tmod_eq_emod_of_nonneg (by omega)]; rfl
        have e2 : (x : Int).tdiv 256 = ((x / 256 : Nat) : Int) := by rw [Int.tdiv_eq_ediv_of_nonneg (by omega)]; rfl
        rw [cond_p (by omega), cond_p (by omega), e1, e2, wU8 (by omega) (by omega)]
        simp only [List.length_cons, List.length_nil]
        rw [oreq_p (by omega), wU64 (by omega) (by omega), wI64 (by omega) (by omega), Int.toNat_natCast]
        have e3 : UInt8.ofNat (x % 256) = UInt8.ofNat x := by apply UInt8.toNat_inj.1; simp
        rw [e3]; rfl
      · simp only [Int.toNat_natCast]
        have e2 : j - i = (j - (i + 1)) + 1 := by omega
        rw [e2, be_snoc]; simp
    · refine .inl ?_
      obtain rfl : i = j := by omega
      rw [cond_n (by omega)]
      simp [be]
  · rw [if_neg hk]
    show iter _ (18446744073709551615 + 1) _ = _
    rw [iter]
    have : R02_Put_s1 k (m : Int) [] 0 = some (.inr []) := by
      unfold R02_Put_s1
      by_cases h2 : 0 < k
      · rw [cond_p h2, cond_n (by omega)]
      · rw [cond_n h2]
    simp only [this]
def getS (s : List UInt8) (p k : Int) : Int × Bool := if 1 ≤ k ∧ k ≤ 8 ∧ 0 ≤ p ∧ p + k ≤ s.length then (((valL ((s.drop p.toNat).take k.toNat) : Nat) : Int), true) else (0, false)
theorem pow_step {v i : Nat} (h : v < 256 ^ i) (hi : i ≤ 7) : v < 2 ^ 56 := Nat.lt_of_lt_of_le h (by
  have : (256 : Nat) ^ i ≤ 256 ^ 7 := Nat.pow_le_pow_right (by decide) hi
  simpa using this)
theorem octet_Get_eq {s : List UInt8} {p k : Int} (hs : s.length < 2 ^ 61) : octet_Get s p k = some (getS s p k) := by
  unfold octet_Get octet_GetF getS
  by_cases h1 : k < 1
  · rw [cond_p h1, if_neg (by omega)]
  by_cases h2 : k > 8
  · rw [cond_n h1, cond_p h2, if_neg (by omega)]
  by_cases h3 : p < 0
  · rw [cond_n h1, cond_n h2, cond_p h3, if_neg (by omega)]
  rw [cond_n h1, cond_n h2, cond_n h3, wI64 (n := (s.length : Int) - k) (by omega) (by omega)]
  by_cases h4 : (s.length : Int) - k < p
  · simp only []
    rw [cond_p h4, if_neg (by omega)]
  simp only []
  rw [cond_n h4, wI64 (n := p + k) (by omega) (by omega), oreq_p (by omega), if_pos (by omega)]
  obtain ⟨q, rfl⟩ := Int.eq_ofNat_of_zero_le (show 0 ≤ p by omega)
  obtain ⟨j, rfl⟩ := Int.eq_ofNat_of_zero_le (show 0 ≤ k by omega)
  have e : ((q : Int) + j).toNat - (q : Int).toNat = j := by omega
  rw [e]
  simp only [Int.toNat_natCast]
  generalize ht : (s.drop q).take j = t
  have hl : t.length = j := by rw [← ht]; simp; omega
  have key := iter_eq (step := fun st => octet_Get_s1 t st.1 st.2) (fun st => (((st.1.toNat * 256 ^ (j - st.2.toNat) + valL (t.drop st.2.toNat) : Nat) : Int), true)) (fun st => 0 ≤ st.1 ∧ 0 ≤ st.2 ∧ st.2 ≤ j ∧ st.1.toNat < 256 ^ st.2.toNat) (fun st => (j - st.2).toNat) ?_ FUEL (0, 0) ⟨by simp, by simp, by simp, by simp⟩ (by rw [FUEL_eq]; simp only; omega)
  · rw [key]; simp
  rintro ⟨n, x⟩ ⟨g1, g2, g3, g4⟩
  simp only at g1 g2 g3 g4 ⊢
  obtain ⟨i, rfl⟩ := Int.eq_ofNat_of_zero_le g2
  obtain ⟨v, rfl⟩ := Int.eq_ofNat_of_zero_le g1
  simp only [Int.toNat_natCast] at g4 ⊢
  unfold octet_Get_s1
  by_cases hp : i < j
  · have hlt : i < t.length := by omega
    have hb := t[i].toNat_lt
    have hv := pow_step g4 (by omega)
    refine .inr ⟨(((v * 256 + t[i].toNat : Nat) : Int), ((i + 1 : Nat) : Int)), ?_, ⟨by simp only; omega, by simp only; omega, by simp only; omega, ?_⟩, by simp only; omega, ?_⟩
    · rw [cond_p (by omega), oreq_p (by omega)]
      have e1 : (bI t)[(i : Int).toNat]? = some (t[i].toNat : Int) := by simp [bI, hlt]
      rw [e1, Option.bind_some]
      have e2 : iorI .u64 (wI .u64 ((v : Int) * 2 ^ 8)) (wI .u64 (t[i].toNat : Int)) = ((v * 256 + t[i].toNat : Nat) : Int) := by
        rw [wU64 (by omega) (by omega), wU64 (by omega) (by omega), iorU64_low 8 (by omega) (by omega) (by omega) (by omega) (by omega)]; omega
      simp only [e2]
      rw [wI64 (by omega) (by omega)]; rfl
    · simp only [Int.toNat_natCast]
      rw [Nat.pow_succ]; omega
    · simp only [Int.toNat_natCast]
      rw [List.drop_eq_getElem_cons hlt, val_cons]
      have e3 : (t.drop (i + 1)).length = j - (i + 1) := by simp; omega
      have e4 : j - i = (j - (i + 1)) + 1 := by omega
      rw [e3, e4, Nat.pow_succ, Nat.add_mul, Nat.mul_assoc, Nat.mul_comm 256, Nat.add_assoc]
  · refine .inl ?_
    obtain rfl : i = j := by omega
    rw [cond_n (by omega)]
    simp [← hl]
theorem R02_Get_eq {s : List UInt8} {p k : Int} (hs : s.length < 2 ^ 61) : R02_Get s p k = some (getS s p k) := by
  unfold R02_Get R02_GetF getS
  by_cases h1 : k < 1
  · rw [cond_p h1, if_neg (by omega)]
  by_cases h2 : k > 8
  · rw [cond_n h1, cond_p h2, if_neg (by omega)]
  by_cases h3 : p < 0
  · rw [cond_n h1, cond_n h2, cond_p h3, if_neg (by omega)]
  by_cases h5 : p > s.length
  · rw [cond_n h1, cond_n h2, cond_n h3, cond_p h5, if_neg (by omega)]
  rw [cond_n h1, cond_n h2, cond_n h3, cond_n h5, wI64 (n := (s.length : Int) - p) (by omega) (by omega)]
  by_cases h4 : k > (s.length : Int) - p
  · simp only []
    rw [cond_p h4, if_neg (by omega)]
  simp only []
  rw [cond_n h4, if_pos (by omega)]
  obtain ⟨q, rfl⟩ := Int.eq_ofNat_of_zero_le (show 0 ≤ p by omega)
  obtain ⟨j, rfl⟩ := Int.eq_ofNat_of_zero_le (show 0 ≤ k by omega)
  simp only [Int.toNat_natCast]
  generalize ht : (s.drop q).take j = t
  have hl : t.length = j := by rw [← ht]; simp; omega
  have key := iter_eq (step := fun st => R02_Get_s1 s (q : Int) (j : Int) st.1 st.2) (fun st => (((st.1.toNat * 256 ^ (j - st.2.toNat) + valL (t.drop st.2.toNat) : Nat) : Int), true)) (fun st => 0 ≤ st.1 ∧ 0 ≤ st.2 ∧ st.2 ≤ j ∧ st.1.toNat < 256 ^ st.2.toNat) (fun st => (j - st.2).toNat) ?_ FUEL (0, 0) ⟨by simp, by simp, by simp, by simp⟩ (by rw [FUEL_eq]; simp only; omega)
  · rw [key]; simp
  rintro ⟨n, x⟩ ⟨g1, g2, g3, g4⟩
  simp only at g1 g2 g3 g4 ⊢
  obtain ⟨i, rfl⟩ := Int.eq_ofNat_of_zero_le g2
  obtain ⟨v, rfl⟩ := Int.eq_ofNat_of_zero_le g1
  simp only [Int.toNat_natCast] at g4 ⊢
  unfold R02_Get_s1
  by_cases hp : i < j
  · have hlt : i < t.length := by omega
    have hb := t[i].toNat_lt
    have hv := pow_step g4 (by omega)
    refine .inr ⟨(((v * 256 + t[i].toNat : Nat) : Int), ((i + 1 : Nat) : Int)), ?_, ⟨by simp only; omega, by simp only; omega, by simp only; omega, ?_⟩, by simp only; omega, ?_⟩
    · rw [cond_p (by omega), wI64 (n := (q : Int) + i) (by omega) (by omega), oreq_p (by omega)]
      have e0 : ((q : Int) + i).toNat = q + i := by omega
      have e1 : s[q + i]? = some t[i] := by
        subst ht
        rw [List.getElem?_eq_getElem (by omega)]
        simp
      rw [e0, e1, Option.bind_some]
      have e2 : wI .u64 ((wI .u64 ((v : Int) * 256)) + (wI .u64 (t[i].toNat : Int))) = ((v * 256 + t[i].toNat : Nat) : Int) := by
        rw [wU64 (n := (v : Int) * 256) (by omega) (by omega), wU64 (n := (t[i].toNat : Int)) (by omega) (by omega), wU64 (by omega) (by omega)]; omega
      simp only [e2]
      rw [wI64 (by omega) (by omega)]; rfl
    · simp only [Int.toNat_natCast]
      rw [Nat.pow_succ]; omega
    · simp only [Int.toNat_natCast]
      rw [List.drop_eq_getElem_cons hlt, val_cons]
      have e3 : (t.drop (i + 1)).length = j - (i + 1) := by simp; omega
      have e4 : j - i = (j - (i + 1)) + 1 := by omega
      rw [e3, e4, Nat.pow_succ, Nat.add_mul, Nat.mul_assoc, Nat.mul_comm 256, Nat.add_assoc]
  · refine .inl ?_
    obtain rfl : i = j := by omega
    rw [cond_n (by omega)]
    simp [← hl]
theorem R02_Must_eq {s : List UInt8} {p k : Int} (hs : s.length < 2 ^ 61) : R02_Must s p k = some (wI .i64 (getS s p k).1) := by
  unfold R02_Must R02_MustF
  rw [R02_Get_eq hs]; rfl
end Go.Vm.Code
namespace Go.Vm.Code
open Go Go.Vm Go.Proofs
set_option maxRecDepth 100000
set_option maxHeartbeats 4000000
set_option linter.unusedVariables false
def R04_RightF (a : api_Addr) : Option Bool :=
  cond (a.V6)
    (
    some (true))
    (
    cond (a.Hi == 0)
      (
      some (decide (a.Lo < 4294967296)))
      (
      some (false)))
def rx115 (x : Bool) : SRes := ⟨.bool x, [], []⟩
def r115 (g : api_Addr → Option Bool) : Dec := dV uvapi_Addr fun (y0 : api_Addr) => dEnd (ofG (g y0) rx115)
theorem r115_c {g : api_Addr → Option Bool} {y0 : api_Addr} {x : Bool} (hx : g y0 = some x) : r115 g [.agg ⟨[.bool y0.V6, .int .u64 y0.Hi, .int .u64 y0.Lo]⟩] [] = some (rx115 x) := (dV_eq (uvapi_Addr_c _)).trans (ofG_eq hx)
def s115 (g : api_Addr → Option Bool) : Summ := ⟨[.v], r115 g⟩
theorem r115_eq {g : api_Addr → Option Bool} {y0 : api_Addr} {x : Bool} (hx : g y0 = some x) : (s115 g).run [.agg ⟨[.bool y0.V6, .int .u64 y0.Hi, .int .u64 y0.Lo]⟩] [] = some (rx115 x) := r115_c hx
abbrev sums115 : List (Nat × Summ) := []
theorem leads115 (hS : SumsOK Try.prog (aget (sums115))) (a : api_Addr) (res : Bool) (h : R04_RightF a = some res) :
    Leads Try.prog 115 0 ⟨⟨115, 15, [(0, .agg ⟨[.bool a.V6, .int .u64 a.Hi, .int .u64 a.Lo]⟩)], [.code k115_3], [], false, none⟩, [], [], 0⟩ (fun v H _ => Res 0 (rx115 res) v H) := by
  unfold R04_RightF at h
  refine ev_ok tab_ok hS true 3000 ?_
  conv => whnf
  refine br.h h ?_ ?_ ?_
  · rfl
  · clear h; intro hb h; conv => whnf
    all_goals (cases h; exact Res.z rfl rfl rfl)
  clear h; intro hb h; conv => whnf
  refine br.h h ?_ ?_ ?_
  · rfl
  · clear h; intro hb h; conv => whnf
    all_goals (cases h; exact Res.z rfl rfl rfl)
  clear h; intro hb h; conv => whnf
  all_goals (cases h; exact Res.z rfl rfl rfl)
theorem ok115 (hS : SumsOK Try.prog (aget (sums115))) : SumOK Try.prog 115 (s115 (R04_RightF)) := by
  refine SumOK.of_leads tab_ok (fun ar os r ha hr => ?_) ⟨Try.f115, rfl, by decide, rfl⟩
  replace hr : r115 (R04_RightF) ar (conts os) = some r := hr
  unfold r115 at hr
  generalize hc : conts os = C at hr
  replace hr := dV.elim hr; obtain ⟨v0, l1, y0, rfl, e0, hr⟩ := hr; obtain rfl := uvapi_Addr_eq _ _ e0
  replace hr := dFin hr; obtain ⟨rfl, rfl, x, h, rfl⟩ := hr
  obtain rfl := kinds_nil hc
  exact ⟨_, rfl, leads115 hS _ x h⟩
def R04_Right : api_Addr → Option Bool := R04_RightF
theorem lift115 : SumOK Try.prog 115 (s115 R04_Right) := ok115 (SumsOK.of_tab trivial)
def addr_RightF (a : api_Addr) : Option Bool :=
  cond (a.V6)
    (
    some (true))
    (
    cond (a.Hi == 0)
      (
      some (decide (a.Lo < 4294967296)))
      (
      some (false)))
def rx82 (x : Bool) : SRes := ⟨.bool x, [], []⟩
def r82 (g : api_Addr → Option Bool) : Dec := dV uvapi_Addr fun (y0 : api_Addr) => dEnd (ofG (g y0) rx82)
theorem r82_c {g : api_Addr → Option Bool} {y0 : api_Addr} {x : Bool} (hx : g y0 = some x) : r82 g [.agg ⟨[.bool y0.V6, .int .u64 y0.Hi, .int .u64 y0.Lo]⟩] [] = some (rx82 x) := (dV_eq (uvapi_Addr_c _)).trans (ofG_eq hx)
def s82 (g : api_Addr → Option Bool) : Summ := ⟨[.v], r82 g⟩
theorem r82_eq {g : api_Addr → Option Bool} {y0 : api_Addr} {x : Bool} (hx : g y0 = some x) : (s82 g).run [.agg ⟨[.bool y0.V6, .int .u64 y0.Hi, .int .u64 y0.Lo]⟩] [] = some (rx82 x) := r82_c hx
abbrev sums82 : List (Nat × Summ) := []
theorem leads82 (hS : SumsOK Try.prog (aget (sums82))) (a : api_Addr) (res : Bool) (h : addr_RightF a = some res) :
    Leads Try.prog 82 0 ⟨⟨82, 15, [(0, .agg ⟨[.bool a.V6, .int .u64 a.Hi, .int .u64 a.Lo]⟩)], [.code k82_3], [], false, none⟩, [], [], 0⟩ (fun v H _ => Res 0 (rx82 res) v H) := by
  unfold addr_RightF at h
  refine ev_ok tab_ok hS true 3000 ?_
  conv => whnf
  refine br.h h ?_ ?_ ?_
  · rfl
  · clear h; intro hb h; conv => whnf
    all_goals (cases h; exact Res.z rfl rfl rfl)
  clear h; intro hb h; conv => whnf
  refine br.h h ?_ ?_ ?_
  · rfl
  · clear h; intro hb h; conv => whnf
    all_goals (cases h; exact Res.z rfl rfl rfl)
  clear h; intro hb h; conv => whnf
  all_goals (cases h; exact Res.z rfl rfl rfl)
theorem ok82 (hS : SumsOK Try.prog (aget (sums82))) : SumOK Try.prog 82 (s82 (addr_RightF)) := by
  refine SumOK.of_leads tab_ok (fun ar os r ha hr => ?_) ⟨Try.f82, rfl, by decide, rfl⟩
  replace hr : r82 (addr_RightF) ar (conts os) = some r := hr
  unfold r82 at hr
  generalize hc : conts os = C at hr
  replace hr := dV.elim hr; obtain ⟨v0, l1, y0, rfl, e0, hr⟩ := hr; obtain rfl := uvapi_Addr_eq _ _ e0
  replace hr := dFin hr; obtain ⟨rfl, rfl, x, h, rfl⟩ := hr
  obtain rfl := kinds_nil hc
  exact ⟨_, rfl, leads82 hS _ x h⟩
def addr_Right : api_Addr → Option Bool := addr_RightF
theorem lift82 : SumOK Try.prog 82 (s82 addr_Right) := ok82 (SumsOK.of_tab trivial)
def addr_PutF (addr_Right : api_Addr → Option Bool) (octet_Put : Int → Int → Option (List UInt8)) (a : api_Addr) : Option (List UInt8) :=
  (addr_Right a).bind fun xr =>
  cond (!xr)
    (
    some ([]))
    (
    cond (a.V6)
      (
      (octet_Put a.Hi 8).bind fun p =>
      (octet_Put a.Lo 8).bind fun p1 =>
      oreq (decide (p.length + p1.length < 2 ^ 63)) <|
      some (p ++ p1))
      (
      (octet_Put a.Lo 4).bind fun p2 =>
      some (p2)))
def rx110 (x : List UInt8) : SRes := ⟨.string ⟨⟨x⟩⟩, [], []⟩
def r110 (g : api_Addr → Option (List UInt8)) : Dec := dV uvapi_Addr fun (y0 : api_Addr) => dEnd (ofG (g y0) rx110)
theorem r110_c {g : api_Addr → Option (List UInt8)} {y0 : api_Addr} {x : List UInt8} (hx : g y0 = some x) : r110 g [.agg ⟨[.bool y0.V6, .int .u64 y0.Hi, .int .u64 y0.Lo]⟩] [] = some (rx110 x) := (dV_eq (uvapi_Addr_c _)).trans (ofG_eq hx)
def s110 (g : api_Addr → Option (List UInt8)) : Summ := ⟨[.v], r110 g⟩
theorem r110_eq {g : api_Addr → Option (List UInt8)} {y0 : api_Addr} {x : List UInt8} (hx : g y0 = some x) : (s110 g).run [.agg ⟨[.bool y0.V6, .int .u64 y0.Hi, .int .u64 y0.Lo]⟩] [] = some (rx110 x) := r110_c hx
abbrev sums110 (addr_Right : api_Addr → Option Bool) (octet_Put : Int → Int → Option (List UInt8)) : List (Nat × Summ) := [(82, s82 addr_Right), (109, s109 octet_Put)]
theorem leads110 (addr_Right : api_Addr → Option Bool) (octet_Put : Int → Int → Option (List UInt8)) (hS : SumsOK Try.prog (aget (sums110 addr_Right octet_Put))) (a : api_Addr) (res : List UInt8) (h : addr_PutF addr_Right octet_Put a = some res) :
    Leads Try.prog 110 0 ⟨⟨110, 20, [(0, .agg ⟨[.bool a.V6, .int .u64 a.Hi, .int .u64 a.Lo]⟩)], [.code k110_15], [], false, none⟩, [], [], 0⟩ (fun v H _ => Res 0 (rx110 res) v H) := by
  unfold addr_PutF at h
  refine ev_ok tab_ok hS true 3000 ?_
  conv => whnf
  replace h := obind.elim h; obtain ⟨xr, hy, h⟩ := h
  refine sumK.q rfl rfl (r82_eq hy) rfl rfl rfl ?_
  conv => whnf
  refine br.h h ?_ ?_ ?_
  · rfl
  · clear h; intro hb h; conv => whnf
    all_goals (cases h; exact Res.z rfl rfl rfl)
  clear h; intro hb h; conv => whnf
  refine br.h2 h ?_ ?_ ?_
  · rfl
  · clear h; intro hb h; conv => whnf
    replace h := obind.elim h; obtain ⟨p2, hy, h⟩ := h
    refine sumK.q rfl rfl (r109_eq hy) rfl rfl rfl ?_
    conv => whnf
    all_goals (cases h; exact Res.z rfl rfl rfl)
  clear h; intro hb h; conv => whnf
  replace h := obind.elim h; obtain ⟨p, hy, h⟩ := h
  refine sumK.q rfl rfl (r109_eq hy) rfl rfl rfl ?_
  conv => whnf
  replace h := obind.elim h; obtain ⟨p1, hy, h⟩ := h
  refine sumK.q rfl rfl (r109_eq hy) rfl rfl rfl ?_
  conv => whnf
  replace h := oreq.elim h; obtain ⟨hb, h⟩ := h
  first | (refine req.intro hb ?_; conv => whnf) | skip
  all_goals (cases h; exact Res.z rfl rfl rfl)
theorem ok110 (addr_Right : api_Addr → Option Bool) (octet_Put : Int → Int → Option (List UInt8)) (hS : SumsOK Try.prog (aget (sums110 addr_Right octet_Put))) : SumOK Try.prog 110 (s110 (addr_PutF addr_Right octet_Put)) := by
  refine SumOK.of_leads tab_ok (fun ar os r ha hr => ?_) ⟨Try.f110, rfl, by decide, rfl⟩
  replace hr : r110 (addr_PutF addr_Right octet_Put) ar (conts os) = some r := hr
  unfold r110 at hr
  generalize hc : conts os = C at hr
  replace hr := dV.elim hr; obtain ⟨v0, l1, y0, rfl, e0, hr⟩ := hr; obtain rfl := uvapi_Addr_eq _ _ e0
  replace hr := dFin hr; obtain ⟨rfl, rfl, x, h, rfl⟩ := hr
  obtain rfl := kinds_nil hc
  exact ⟨_, rfl, leads110 addr_Right octet_Put hS _ x h⟩
def addr_Put : api_Addr → Option (List UInt8) := addr_PutF addr_Right octet_Put
theorem lift110 : SumOK Try.prog 110 (s110 addr_Put) := ok110 addr_Right octet_Put (SumsOK.of_tab ⟨lift82, lift109, trivial⟩)
end Go.Vm.Code
namespace Go.Vm.Code
open Go Go.Vm
def adr (a : api_Addr) : Bool := a.V6 || (decide (a.Hi = 0) && decide (a.Lo < 4294967296))
def adB (a : api_Addr) : List UInt8 := cond a.V6 (be a.Hi.toNat 8 ++ be a.Lo.toNat 8) (be a.Lo.toNat 4)
theorem tuRight_eq (a : api_Addr) : addr_Right a = some (adr a) := by
  unfold addr_Right addr_RightF adr
  cases a.V6 with
  | true => rfl
  | false =>
    rw [cond_false, Bool.false_or]
    by_cases h : a.Hi = 0
    · rw [h]; rfl
    · rw [beq_eq_false_iff_ne.2 h, cond_false, decide_eq_false h]; rfl
theorem raRight_eq (a : api_Addr) : R04_Right a = some (adr a) := tuRight_eq a
end Go.Vm.Code
namespace Go.Vm.Code
open Go Go.Vm Go.Proofs
set_option maxRecDepth 100000
set_option maxHeartbeats 4000000
set_option linter.unusedVariables false
def R12_turnF (n : Int) (k : Int) : Option Int :=
  oreq (decide (0 ≤ k)) <|
  oreq (decide (0 ≤ (wI .i64 (64 - k)))) <|
  let t := n.fdiv (2 ^ (min (wI .i64 (64 - k)).toNat 64))
  let t1 := iorI .u64 (wI .u64 (n * 2 ^ (min k.toNat 64))) t
  some (t1)
def rx149 (x : Int) : SRes := ⟨.int .u64 x, [], []⟩
def r149 (g : Int → Int → Option Int) : Dec := dV (asI .u64) fun (y0 : Int) => dV (asI .i64) fun (y1 : Int) => dEnd (ofG (g y0 y1) rx149)
theorem r149_c {g : Int → Int → Option Int} {y0 : Int} {y1 : Int} {x : Int} (hx : g y0 y1 = some x) : r149 g [.int .u64 y0, .int .i64 y1] [] = some (rx149 x) := (dV_eq (asI_c _)).trans ((dV_eq (asI_c _)).trans (ofG_eq hx))
def s149 (g : Int → Int → Option Int) : Summ := ⟨[.v, .v], r149 g⟩
theorem r149_eq {g : Int → Int → Option Int} {y0 : Int} {y1 : Int} {x : Int} (hx : g y0 y1 = some x) : (s149 g).run [.int .u64 y0, .int .i64 y1] [] = some (rx149 x) := r149_c hx
abbrev sums149 : List (Nat × Summ) := []
theorem leads149 (hS : SumsOK Try.prog (aget (sums149))) (n : Int) (k : Int) (res : Int) (h : R12_turnF n k = some res) :
    Leads Try.prog 149 0 ⟨⟨149, 13, [(0, .int .u64 n), (1, .int .i64 k)], [.code k149_3], [], false, none⟩, [], [], 0⟩ (fun v H _ => Res 0 (rx149 res) v H) := by
  unfold R12_turnF at h
  refine ev_ok tab_ok hS true 3000 ?_
  conv => whnf
  replace h := oreq.elim h; obtain ⟨hb, h⟩ := h
  first | (refine req.intro hb ?_; conv => whnf) | skip
  replace h := oreq.elim h; obtain ⟨hb, h⟩ := h
  first | (refine req.intro hb ?_; conv => whnf) | skip
  let t : Int := n.fdiv (2 ^ (min (wI .i64 (64 - k)).toNat 64))
  let t1 : Int := iorI .u64 (wI .u64 (n * 2 ^ (min k.toNat 64))) t
  all_goals (cases h; exact Res.z rfl rfl rfl)
theorem ok149 (hS : SumsOK Try.prog (aget (sums149))) : SumOK Try.prog 149 (s149 (R12_turnF)) := by
  refine SumOK.of_leads tab_ok (fun ar os r ha hr => ?_) ⟨Try.f149, rfl, by decide, rfl⟩
  replace hr : r149 (R12_turnF) ar (conts os) = some r := hr
  unfold r149 at hr
  generalize hc : conts os = C at hr
  replace hr := dV.elim hr; obtain ⟨v0, l1, y0, rfl, e0, hr⟩ := hr; obtain rfl := asI_eq _ _ _ e0
  replace hr := dV.elim hr; obtain ⟨v1, l2, y1, rfl, e1, hr⟩ := hr; obtain rfl := asI_eq _ _ _ e1
  replace hr := dFin hr; obtain ⟨rfl, rfl, x, h, rfl⟩ := hr
  obtain rfl := kinds_nil hc
  exact ⟨_, rfl, leads149 hS _ _ x h⟩
def R12_turn : Int → Int → Option Int := R12_turnF
theorem lift149 : SumOK Try.prog 149 (s149 R12_turn) := ok149 (SumsOK.of_tab trivial)
def R12_RoundF (R12_turn : Int → Int → Option Int) (a : Int) (b : Int) (c : Int) (d : Int) : Option (Int × Int × Int × Int) :=
  (R12_turn b 13).bind fun t =>
  (R12_turn (wI .u64 (a + b)) 32).bind fun t1 =>
  (R12_turn d 16).bind fun t2 =>
  let t3 := wI .u64 (t1 + (ixorI .u64 t2 (wI .u64 (c + d))))
  (R12_turn (ixorI .u64 t2 (wI .u64 (c + d))) 21).bind fun t4 =>
  let t5 := wI .u64 ((wI .u64 (c + d)) + (ixorI .u64 t (wI .u64 (a + b))))
  (R12_turn (ixorI .u64 t (wI .u64 (a + b))) 17).bind fun t6 =>
  (R12_turn t5 32).bind fun t7 =>
  some ((t3, ixorI .u64 t6 t5, t7, ixorI .u64 t4 t3))
def rx136 (x : Int × Int × Int × Int) : SRes := ⟨.tuple ⟨[.int .u64 x.1, .int .u64 x.2.1, .int .u64 x.2.2.1, .int .u64 x.2.2.2]⟩, [], []⟩
def r136 (g : Int → Int → Int → Int → Option (Int × Int × Int × Int)) : Dec := dV (asI .u64) fun (y0 : Int) => dV (asI .u64) fun (y1 : Int) => dV (asI .u64) fun (y2 : Int) => dV (asI .u64) fun (y3 : Int) => dEnd (ofG (g y0 y1 y2 y3) rx136)
theorem r136_c {g : Int → Int → Int → Int → Option (Int × Int × Int × Int)} {y0 : Int} {y1 : Int} {y2 : Int} {y3 : Int} {x : Int × Int × Int × Int} (hx : g y0 y1 y2 y3 = some x) : r136 g [.int .u64 y0, .int .u64 y1, .int .u64 y2, .int .u64 y3] [] = some (rx136 x) := (dV_eq (asI_c _)).trans ((dV_eq (asI_c _)).trans ((dV_eq (asI_c _)).trans ((dV_eq (asI_c _)).trans (ofG_eq hx))))
def s136 (g : Int → Int → Int → Int → Option (Int × Int × Int × Int)) : Summ := ⟨[.v, .v, .v, .v], r136 g⟩
theorem r136_eq {g : Int → Int → Int → Int → Option (Int × Int × Int × Int)} {y0 : Int} {y1 : Int} {y2 : Int} {y3 : Int} {x : Int × Int × Int × Int} (hx : g y0 y1 y2 y3 = some x) : (s136 g).run [.int .u64 y0, .int .u64 y1, .int .u64 y2, .int .u64 y3] [] = some (rx136 x) := r136_c hx
abbrev sums136 (R12_turn : Int → Int → Option Int) : List (Nat × Summ) := [(149, s149 R12_turn)]
theorem leads136 (R12_turn : Int → Int → Option Int) (hS : SumsOK Try.prog (aget (sums136 R12_turn))) (a : Int) (b : Int) (c : Int) (d : Int) (res : Int × Int × Int × Int) (h : R12_RoundF R12_turn a b c d = some res) :
    Leads Try.prog 136 0 ⟨⟨136, 48, [(0, .int .u64 a), (1, .int .u64 b), (2, .int .u64 c), (3, .int .u64 d)], [.code k136_23], [], false, none⟩, [], [], 0⟩ (fun v H _ => Res 0 (rx136 res) v H) := by
  unfold R12_RoundF at h
  refine ev_ok tab_ok hS true 3000 ?_
  conv => whnf
  replace h := obind.elim h; obtain ⟨t, hy, h⟩ := h
  refine sumK.q rfl rfl (r149_eq hy) rfl rfl rfl ?_
  conv => whnf
  replace h := obind.elim h; obtain ⟨t1, hy, h⟩ := h
  refine sumK.q rfl rfl (r149_eq hy) rfl rfl rfl ?_
  conv => whnf
  replace h := obind.elim h; obtain ⟨t2, hy, h⟩ := h
  refine sumK.q rfl rfl (r149_eq hy) rfl rfl rfl ?_
  conv => whnf
  let t3 : Int := wI .u64 (t1 + (ixorI .u64 t2 (wI .u64 (c + d))))
  replace h := obind.elim h; obtain ⟨t4, hy, h⟩ := h
  refine sumK.q rfl rfl (r149_eq hy) rfl rfl rfl ?_
  conv => whnf
  let t5 : Int := wI .u64 ((wI .u64 (c + d)) + (ixorI .u64 t (wI .u64 (a + b))))
  replace h := obind.elim h; obtain ⟨t6, hy, h⟩ := h
  refine sumK.q rfl rfl (r149_eq hy) rfl rfl rfl ?_
  conv => whnf
  replace h := obind.elim h; obtain ⟨t7, hy, h⟩ := h
  refine sumK.q rfl rfl (r149_eq hy) rfl rfl rfl ?_
  conv => whnf
  all_goals (cases h; exact Res.z rfl rfl rfl)
theorem ok136 (R12_turn : Int → Int → Option Int) (hS : SumsOK Try.prog (aget (sums136 R12_turn))) : SumOK Try.prog 136 (s136 (R12_RoundF R12_turn)) := by
  refine SumOK.of_leads tab_ok (fun ar os r ha hr => ?_) ⟨Try.f136, rfl, by decide, rfl⟩
  replace hr : r136 (R12_RoundF R12_turn) ar (conts os) = some r := hr
  unfold r136 at hr
  generalize hc : conts os = C at hr
  replace hr := dV.elim hr; obtain ⟨v0, l1, y0, rfl, e0, hr⟩ := hr; obtain rfl := asI_eq _ _ _ e0
  replace hr := dV.elim hr; obtain ⟨v1, l2, y1, rfl, e1, hr⟩ := hr; obtain rfl := asI_eq _ _ _ e1
  replace hr := dV.elim hr; obtain ⟨v2, l3, y2, rfl, e2, hr⟩ := hr; obtain rfl := asI_eq _ _ _ e2
  replace hr := dV.elim hr; obtain ⟨v3, l4, y3, rfl, e3, hr⟩ := hr; obtain rfl := asI_eq _ _ _ e3
  replace hr := dFin hr; obtain ⟨rfl, rfl, x, h, rfl⟩ := hr
  obtain rfl := kinds_nil hc
  exact ⟨_, rfl, leads136 R12_turn hS _ _ _ _ x h⟩
def R12_Round : Int → Int → Int → Int → Option (Int × Int × Int × Int) := R12_RoundF R12_turn
theorem lift136 : SumOK Try.prog 136 (s136 R12_Round) := ok136 R12_turn (SumsOK.of_tab ⟨lift149, trivial⟩)
def R12_Mix_s1 (R12_Round : Int → Int → Int → Int → Option (Int × Int × Int × Int)) (rounds : Int) (a1 : Int) (b1 : Int) (c1 : Int) (d1 : Int) (i : Int) : Option (Sum (Int × Int × Int × Int × Int) Arr4_Int) :=
  cond (decide (i < rounds))
    (
    cond (decide (i < 64))
      (
      (R12_Round a1 b1 c1 d1).bind fun xr =>
      some (.inl (xr.1, xr.2.1, xr.2.2.1, xr.2.2.2, wI .i64 (i + 1))))
      (
      some (.inr (Arr4_Int.mk a1 b1 c1 d1))))
    (
    some (.inr (Arr4_Int.mk a1 b1 c1 d1)))
def R12_MixF (R12_Round : Int → Int → Int → Int → Option (Int × Int × Int × Int)) (a : Int) (b : Int) (c : Int) (d : Int) (rounds : Int) : Option Arr4_Int :=
  iter (fun st => R12_Mix_s1 R12_Round rounds st.1 st.2.1 st.2.2.1 st.2.2.2.1 st.2.2.2.2) FUEL (a, b, c, d, 0)
def rx137 (x : Arr4_Int) : SRes := ⟨.agg ⟨[.int .u64 x.e0, .int .u64 x.e1, .int .u64 x.e2, .int .u64 x.e3]⟩, [], []⟩
def r137 (g : Int → Int → Int → Int → Int → Option Arr4_Int) : Dec := dV (asI .u64) fun (y0 : Int) => dV (asI .u64) fun (y1 : Int) => dV (asI .u64) fun (y2 : Int) => dV (asI .u64) fun (y3 : Int) => dV (asI .i64) fun (y4 : Int) => dEnd (ofG (g y0 y1 y2 y3 y4) rx137)
theorem r137_c {g : Int → Int → Int → Int → Int → Option Arr4_Int} {y0 : Int} {y1 : Int} {y2 : Int} {y3 : Int} {y4 : Int} {x : Arr4_Int} (hx : g y0 y1 y2 y3 y4 = some x) : r137 g [.int .u64 y0, .int .u64 y1, .int .u64 y2, .int .u64 y3, .int .i64 y4] [] = some (rx137 x) := (dV_eq (asI_c _)).trans ((dV_eq (asI_c _)).trans ((dV_eq (asI_c _)).trans ((dV_eq (asI_c _)).trans ((dV_eq (asI_c _)).trans (ofG_eq hx)))))
def s137 (g : Int → Int → Int → Int → Int → Option Arr4_Int) : Summ := ⟨[.v, .v, .v, .v, .v], r137 g⟩
theorem r137_eq {g : Int → Int → Int → Int → Int → Option Arr4_Int} {y0 : Int} {y1 : Int} {y2 : Int} {y3 : Int} {y4 : Int} {x : Arr4_Int} (hx : g y0 y1 y2 y3 y4 = some x) : (s137 g).run [.int .u64 y0, .int .u64 y1, .int .u64 y2, .int .u64 y3, .int .i64 y4] [] = some (rx137 x) := r137_c hx
abbrev sums137 (R12_Round : Int → Int → Int → Int → Option (Int × Int × Int × Int)) : List (Nat × Summ) := [(136, s136 R12_Round)]
def head137_1 (rounds : Int) (a1 : Int) (b1 : Int) (c1 : Int) (d1 : Int) (i : Int) : VM :=
  ⟨⟨137, 36, [(0, .int .u64 a1), (1, .int .u64 b1), (2, .int .u64 c1), (3, .int .u64 d1), (4, .int .i64 rounds), (10, .pointer (some ⟨0, 0, none⟩)), (11, .int .i64 i)], [.code k137_9, .inLoop k137_9, .inBlock 0, .code k137_14], [], false, none⟩, [], [(0, .cells [.int .u64 0, .int .u64 0, .int .u64 0, .int .u64 0])], 1⟩
theorem loop137_1 (R12_Round : Int → Int → Int → Int → Option (Int × Int × Int × Int)) (hS : SumsOK Try.prog (aget (sums137 R12_Round))) (rounds : Int) (res : Arr4_Int) : ∀ fuel (st : Int × Int × Int × Int × Int) (o : Arr4_Int), iter (fun st => R12_Mix_s1 R12_Round rounds st.1 st.2.1 st.2.2.1 st.2.2.2.1 st.2.2.2.2) fuel st = some o → (o = res) →
    Leads Try.prog 137 0 (head137_1 rounds st.1 st.2.1 st.2.2.1 st.2.2.2.1 st.2.2.2.2) (fun v H _ => Res 0 (rx137 res) v H) := by
  intro fuel st o h hc
  refine iter_leads (head := fun st => head137_1 rounds st.1 st.2.1 st.2.2.1 st.2.2.2.1 st.2.2.2.2) (C := fun o => (o = res)) ?_ fuel st o h hc
  clear h hc o st fuel
  intro st o h hc
  obtain ⟨a1, b1, c1, d1, i⟩ := st
  replace h : R12_Mix_s1 R12_Round rounds a1 b1 c1 d1 i = some o := h
  show Leads Try.prog 137 0 (head137_1 rounds a1 b1 c1 d1 i) (fun v H _ => Res 0 (rx137 res) v H)
  unfold R12_Mix_s1 at h
  refine ev_ok tab_ok hS true 3000 ?_
  conv => whnf
  refine br.h2 h ?_ ?_ ?_
  · rfl
  · clear h; intro hb h; conv => whnf
    all_goals (cases h; cases hc; exact Res.z rfl rfl rfl)
  clear h; intro hb h; conv => whnf
  refine br.h2 h ?_ ?_ ?_
  · rfl
  · clear h; intro hb h; conv => whnf
    all_goals (cases h; cases hc; exact Res.z rfl rfl rfl)
  clear h; intro hb h; conv => whnf
  replace h := obind.elim h; obtain ⟨xr, hy, h⟩ := h
  refine sumK.q rfl rfl (r136_eq hy) rfl rfl rfl ?_
  conv => whnf
  cases h; simp only [Sum.elim_inl, head137_1] at hc
  exact lrA0 hc [(0, 0)] rfl
theorem leads137 (R12_Round : Int → Int → Int → Int → Option (Int × Int × Int × Int)) (hS : SumsOK Try.prog (aget (sums137 R12_Round))) (a : Int) (b : Int) (c : Int) (d : Int) (rounds : Int) (res : Arr4_Int) (h : R12_MixF R12_Round a b c d rounds = some res) :
    Leads Try.prog 137 0 ⟨⟨137, 36, [(0, .int .u64 a), (1, .int .u64 b), (2, .int .u64 c), (3, .int .u64 d), (4, .int .i64 rounds)], [.code k137_16], [], false, none⟩, [], [], 0⟩ (fun v H _ => Res 0 (rx137 res) v H) := by
  unfold R12_MixF at h
  refine ev_ok tab_ok hS true 3000 ?_
  conv => whnf
  have hl := loop137_1 R12_Round hS _ res _ _ _ h rfl; simp only [head137_1] at hl
  exact lrA0 hl [(0, 0)] rfl
theorem ok137 (R12_Round : Int → Int → Int → Int → Option (Int × Int × Int × Int)) (hS : SumsOK Try.prog (aget (sums137 R12_Round))) : SumOK Try.prog 137 (s137 (R12_MixF R12_Round)) := by
  refine SumOK.of_leads tab_ok (fun ar os r ha hr => ?_) ⟨Try.f137, rfl, by decide, rfl⟩
  replace hr : r137 (R12_MixF R12_Round) ar (conts os) = some r := hr
  unfold r137 at hr
  generalize hc : conts os = C at hr
  replace hr := dV.elim hr; obtain ⟨v0, l1, y0, rfl, e0, hr⟩ := hr; obtain rfl := asI_eq _ _ _ e0
  replace hr := dV.elim hr; obtain ⟨v1, l2, y1, rfl, e1, hr⟩ := hr; obtain rfl := asI_eq _ _ _ e1
  replace hr := dV.elim hr; obtain ⟨v2, l3, y2, rfl, e2, hr⟩ := hr; obtain rfl := asI_eq _ _ _ e2
  replace hr := dV.elim hr; obtain ⟨v3, l4, y3, rfl, e3, hr⟩ := hr; obtain rfl := asI_eq _ _ _ e3
  replace hr := dV.elim hr; obtain ⟨v4, l5, y4, rfl, e4, hr⟩ := hr; obtain rfl := asI_eq _ _ _ e4
  replace hr := dFin hr; obtain ⟨rfl, rfl, x, h, rfl⟩ := hr
  obtain rfl := kinds_nil hc
  exact ⟨_, rfl, leads137 R12_Round hS _ _ _ _ _ x h⟩
def R12_Mix : Int → Int → Int → Int → Int → Option Arr4_Int := R12_MixF R12_Round
theorem lift137 : SumOK Try.prog 137 (s137 R12_Mix) := ok137 R12_Round (SumsOK.of_tab ⟨lift136, trivial⟩)
def sip_NewF (k : api_Key) : Option sip_Hasher :=
  some (sip_Hasher.mk true (Arr4_Int.mk (ixorI .u64 8317987319222330741 k.A) (ixorI .u64 7237128888997146477 k.B) (ixorI .u64 7816392313619706465 k.A) (ixorI .u64 8387220255154660723 k.B)) 0 0)
def rx132 (x : sip_Hasher) : SRes := ⟨.pointer (some ⟨0, 0, none⟩), [[.bool x.made, .int .u64 x.s.e0, .int .u64 x.s.e1, .int .u64 x.s.e2, .int .u64 x.s.e3, .int .u64 x.last, .int .i64 x.count]], []⟩
def r132 (g : api_Key → Option sip_Hasher) : Dec := dV uvapi_Key fun (y0 : api_Key) => dEnd (ofG (g y0) rx132)
theorem r132_c {g : api_Key → Option sip_Hasher} {y0 : api_Key} {x : sip_Hasher} (hx : g y0 = some x) : r132 g [.agg ⟨[.int .u64 y0.A, .int .u64 y0.B]⟩] [] = some (rx132 x) := (dV_eq (uvapi_Key_c _)).trans (ofG_eq hx)
def s132 (g : api_Key → Option sip_Hasher) : Summ := ⟨[.v], r132 g⟩
theorem r132_eq {g : api_Key → Option sip_Hasher} {y0 : api_Key} {x : sip_Hasher} (hx : g y0 = some x) : (s132 g).run [.agg ⟨[.int .u64 y0.A, .int .u64 y0.B]⟩] [] = some (rx132 x) := r132_c hx
abbrev sums132 : List (Nat × Summ) := []
theorem leads132 (hS : SumsOK Try.prog (aget (sums132))) (k : api_Key) (res : sip_Hasher) (h : sip_NewF k = some res) :
    Leads Try.prog 132 0 ⟨⟨132, 18, [(0, .agg ⟨[.int .u64 k.A, .int .u64 k.B]⟩)], [.code k132_3], [], false, none⟩, [], [], 0⟩ (fun v H _ => Res 0 (rx132 res) v H) := by
  unfold sip_NewF at h
  refine ev_ok tab_ok hS true 3000 ?_
  conv => whnf
  all_goals (cases h)
  all_goals exact Res.of [1] rfl (nw_s (rfl) (hs_cells rfl) nw_0) (by decide) (js_l (by decide) js_0) wr_0
theorem ok132 (hS : SumsOK Try.prog (aget (sums132))) : SumOK Try.prog 132 (s132 (sip_NewF)) := by
  refine SumOK.of_leads tab_ok (fun ar os r ha hr => ?_) ⟨Try.f132, rfl, by decide, rfl⟩
  replace hr : r132 (sip_NewF) ar (conts os) = some r := hr
  unfold r132 at hr
  generalize hc : conts os = C at hr
  replace hr := dV.elim hr; obtain ⟨v0, l1, y0, rfl, e0, hr⟩ := hr; obtain rfl := uvapi_Key_eq _ _ e0
  replace hr := dFin hr; obtain ⟨rfl, rfl, x, h, rfl⟩ := hr
  obtain rfl := kinds_nil hc
  exact ⟨_, rfl, leads132 hS _ x h⟩
def sip_New : api_Key → Option sip_Hasher := sip_NewF
theorem lift132 : SumOK Try.prog 132 (s132 sip_New) := ok132 (SumsOK.of_tab trivial)
def math_bits_RotateLeft64F (x : Int) (k : Int) : Option Int :=
  oreq (decide (0 ≤ (andI .u64 (wI .u64 k) 63))) <|
  let t := wI .u64 (x * 2 ^ (min (andI .u64 (wI .u64 k) 63).toNat 64))
  let t1 := wI .u64 (64 - (andI .u64 (wI .u64 k) 63))
  oreq (decide (0 ≤ t1)) <|
  let t2 := iorI .u64 t (x.fdiv (2 ^ (min t1.toNat 64)))
  some (t2)
def rx159 (x : Int) : SRes := ⟨.int .u64 x, [], []⟩
def r159 (g : Int → Int → Option Int) : Dec := dV (asI .u64) fun (y0 : Int) => dV (asI .i64) fun (y1 : Int) => dEnd (ofG (g y0 y1) rx159)
theorem r159_c {g : Int → Int → Option Int} {y0 : Int} {y1 : Int} {x : Int} (hx : g y0 y1 = some x) : r159 g [.int .u64 y0, .int .i64 y1] [] = some (rx159 x) := (dV_eq (asI_c _)).trans ((dV_eq (asI_c _)).trans (ofG_eq hx))
def s159 (g : Int → Int → Option Int) : Summ := ⟨[.v, .v], r159 g⟩
theorem r159_eq {g : Int → Int → Option Int} {y0 : Int} {y1 : Int} {x : Int} (hx : g y0 y1 = some x) : (s159 g).run [.int .u64 y0, .int .i64 y1] [] = some (rx159 x) := r159_c hx
abbrev sums159 : List (Nat × Summ) := []
theorem leads159 (hS : SumsOK Try.prog (aget (sums159))) (x : Int) (k : Int) (res : Int) (h : math_bits_RotateLeft64F x k = some res) :
    Leads Try.prog 159 0 ⟨⟨159, 17, [(0, .int .u64 x), (1, .int .i64 k)], [.code k159_5], [], false, none⟩, [], [], 0⟩ (fun v H _ => Res 0 (rx159 res) v H) := by
  unfold math_bits_RotateLeft64F at h
  refine ev_ok tab_ok hS true 3000 ?_
  conv => whnf
  replace h := oreq.elim h; obtain ⟨hb, h⟩ := h
  first | (refine req.intro hb ?_; conv => whnf) | skip
  let t : Int := wI .u64 (x * 2 ^ (min (andI .u64 (wI .u64 k) 63).toNat 64))
  let t1 : Int := wI .u64 (64 - (andI .u64 (wI .u64 k) 63))
  replace h := oreq.elim h; obtain ⟨hb, h⟩ := h
  first | (refine req.intro hb ?_; conv => whnf) | skip
  let t2 : Int := iorI .u64 t (x.fdiv (2 ^ (min t1.toNat 64)))
  all_goals (cases h; exact Res.z rfl rfl rfl)
theorem ok159 (hS : SumsOK Try.prog (aget (sums159))) : SumOK Try.prog 159 (s159 (math_bits_RotateLeft64F)) := by
  refine SumOK.of_leads tab_ok (fun ar os r ha hr => ?_) ⟨Try.f159, rfl, by decide, rfl⟩
  replace hr : r159 (math_bits_RotateLeft64F) ar (conts os) = some r := hr
  unfold r159 at hr
  generalize hc : conts os = C at hr
  replace hr := dV.elim hr; obtain ⟨v0, l1, y0, rfl, e0, hr⟩ := hr; obtain rfl := asI_eq _ _ _ e0
  replace hr := dV.elim hr; obtain ⟨v1, l2, y1, rfl, e1, hr⟩ := hr; obtain rfl := asI_eq _ _ _ e1
  replace hr := dFin hr; obtain ⟨rfl, rfl, x, h, rfl⟩ := hr
  obtain rfl := kinds_nil hc
  exact ⟨_, rfl, leads159 hS _ _ x h⟩
def math_bits_RotateLeft64 : Int → Int → Option Int := math_bits_RotateLeft64F
theorem lift159 : SumOK Try.prog 159 (s159 math_bits_RotateLeft64) := ok159 (SumsOK.of_tab trivial)
def sip_state_roundF (math_bits_RotateLeft64 : Int → Int → Option Int) (s : Arr4_Int) : Option Arr4_Int :=
  (math_bits_RotateLeft64 s.e1 13).bind fun xr =>
  (math_bits_RotateLeft64 (wI .u64 (s.e0 + s.e1)) 32).bind fun xr1 =>
  (math_bits_RotateLeft64 s.e3 16).bind fun xr2 =>
  let t := wI .u64 (xr1 + (ixorI .u64 xr2 (wI .u64 (s.e2 + s.e3))))
  (math_bits_RotateLeft64 (ixorI .u64 xr2 (wI .u64 (s.e2 + s.e3))) 21).bind fun xr3 =>
  let t1 := wI .u64 ((wI .u64 (s.e2 + s.e3)) + (ixorI .u64 xr (wI .u64 (s.e0 + s.e1))))
  (math_bits_RotateLeft64 (ixorI .u64 xr (wI .u64 (s.e0 + s.e1))) 17).bind fun xr4 =>
  (math_bits_RotateLeft64 t1 32).bind fun xr5 =>
  some (Arr4_Int.mk t (ixorI .u64 xr4 t1) xr5 (ixorI .u64 xr3 t))
def rx154 (x : Arr4_Int) : SRes := ⟨.tuple ⟨[]⟩, [], [some [.int .u64 x.e0, .int .u64 x.e1, .int .u64 x.e2, .int .u64 x.e3]]⟩
def r154 (g : Arr4_Int → Option Arr4_Int) : Dec := dPt 0 unArr4_Int fun (y0 : Arr4_Int) => dEnd (ofG (g y0) rx154)
theorem r154_c {g : Arr4_Int → Option Arr4_Int} {y0 : Arr4_Int} {x : Arr4_Int} (hx : g y0 = some x) : r154 g [.pointer (some ⟨0, 0, none⟩)] [some [.int .u64 y0.e0, .int .u64 y0.e1, .int .u64 y0.e2, .int .u64 y0.e3]] = some (rx154 x) := (dPt_eq (unArr4_Int_c _)).trans (ofG_eq hx)
def s154 (g : Arr4_Int → Option Arr4_Int) : Summ := ⟨[.pt 4], r154 g⟩
theorem r154_eq {g : Arr4_Int → Option Arr4_Int} {y0 : Arr4_Int} {x : Arr4_Int} (hx : g y0 = some x) : (s154 g).run [.pointer (some ⟨0, 0, none⟩)] [some [.int .u64 y0.e0, .int .u64 y0.e1, .int .u64 y0.e2, .int .u64 y0.e3]] = some (rx154 x) := r154_c hx
abbrev sums154 (math_bits_RotateLeft64 : Int → Int → Option Int) : List (Nat × Summ) := [(159, s159 math_bits_RotateLeft64)]
theorem leads154 (math_bits_RotateLeft64 : Int → Int → Option Int) (hS : SumsOK Try.prog (aget (sums154 math_bits_RotateLeft64))) (s : Arr4_Int) (res : Arr4_Int) (h : sip_state_roundF math_bits_RotateLeft64 s = some res) :
    Leads Try.prog 154 1 ⟨⟨154, 114, [(0, .pointer (some ⟨0, 0, none⟩))], [.code k154_18], [], false, none⟩, [], [(0, .cells [.int .u64 s.e0, .int .u64 s.e1, .int .u64 s.e2, .int .u64 s.e3])], 1⟩ (fun v H _ => Res 1 (rx154 res) v H) := by
  unfold sip_state_roundF at h
  refine ev_ok tab_ok hS true 3000 ?_
  conv => whnf
  replace h := obind.elim h; obtain ⟨xr, hy, h⟩ := h
  refine sumK.q rfl rfl (r159_eq hy) rfl rfl rfl ?_
  conv => whnf
  replace h := obind.elim h; obtain ⟨xr1, hy, h⟩ := h
  refine sumK.q rfl rfl (r159_eq hy) rfl rfl rfl ?_
  conv => whnf
  replace h := obind.elim h; obtain ⟨xr2, hy, h⟩ := h
  refine sumK.q rfl rfl (r159_eq hy) rfl rfl rfl ?_
  conv => whnf
  let t : Int := wI .u64 (xr1 + (ixorI .u64 xr2 (wI .u64 (s.e2 + s.e3))))
  replace h := obind.elim h; obtain ⟨xr3, hy, h⟩ := h
  refine sumK.q rfl rfl (r159_eq hy) rfl rfl rfl ?_
  conv => whnf
  let t1 : Int := wI .u64 ((wI .u64 (s.e2 + s.e3)) + (ixorI .u64 xr (wI .u64 (s.e0 + s.e1))))
  replace h := obind.elim h; obtain ⟨xr4, hy, h⟩ := h
  refine sumK.q rfl rfl (r159_eq hy) rfl rfl rfl ?_
  conv => whnf
  replace h := obind.elim h; obtain ⟨xr5, hy, h⟩ := h
  refine sumK.q rfl rfl (r159_eq hy) rfl rfl rfl ?_
  conv => whnf
  all_goals (cases h)
  all_goals exact Res.of [] rfl nw_0 (by decide) js_0 (wr_s (rfl) (hs_cells rfl) wr_0)
theorem ok154 (math_bits_RotateLeft64 : Int → Int → Option Int) (hS : SumsOK Try.prog (aget (sums154 math_bits_RotateLeft64))) : SumOK Try.prog 154 (s154 (sip_state_roundF math_bits_RotateLeft64)) := by
  refine SumOK.of_leads tab_ok (fun ar os r ha hr => ?_) ⟨Try.f154, rfl, by decide, rfl⟩
  replace hr : r154 (sip_state_roundF math_bits_RotateLeft64) ar (conts os) = some r := hr
  unfold r154 at hr
  generalize hc : conts os = C at hr
  have hq := dPt.elim hr; clear hr; obtain ⟨c0, l1, C, y0, rfl, rfl, e0, hr⟩ := hq; obtain rfl := unArr4_Int_eq _ _ e0
  replace hr := dFin hr; obtain ⟨rfl, rfl, x, h, rfl⟩ := hr
  obtain ⟨os, rfl, ha, hc⟩ := kinds_some ha hc
  obtain rfl := kinds_nil hc
  exact ⟨_, rfl, leads154 math_bits_RotateLeft64 hS _ x h⟩
def sip_state_round : Arr4_Int → Option Arr4_Int := sip_state_roundF math_bits_RotateLeft64
theorem lift154 : SumOK Try.prog 154 (s154 sip_state_round) := ok154 math_bits_RotateLeft64 (SumsOK.of_tab ⟨lift159, trivial⟩)
def sip_state_mix_s1 (sip_state_round : Arr4_Int → Option Arr4_Int) (t : Int) (t7 : Int) (s1 : Int) (s2 : Int) (s3 : Int) (s4 : Int) : Option (Sum (Int × Int × Int × Int × Int) Arr4_Int) :=
  cond (decide (t7 < t))
    (
    (sip_state_round (Arr4_Int.mk s1 s2 s3 s4)).bind fun xr =>
    some (.inl (wI .i64 (t7 + 1), xr.e0, xr.e1, xr.e2, xr.e3)))
    (
    some (.inr (Arr4_Int.mk s1 s2 s3 s4)))
def sip_state_mixF (sip_state_round : Arr4_Int → Option Arr4_Int) (s : Arr4_Int) (rounds : Int) : Option Arr4_Int :=
  let t := if (if 64 < rounds then 64 else rounds) > 0 then if 64 < rounds then 64 else rounds else 0
  iter (fun st => sip_state_mix_s1 sip_state_round t st.1 st.2.1 st.2.2.1 st.2.2.2.1 st.2.2.2.2) FUEL (0, s.e0, s.e1, s.e2, s.e3)
def rx148 (x : Arr4_Int) : SRes := ⟨.tuple ⟨[]⟩, [], [some [.int .u64 x.e0, .int .u64 x.e1, .int .u64 x.e2, .int .u64 x.e3]]⟩
def r148 (g : Arr4_Int → Int → Option Arr4_Int) : Dec := dPt 0 unArr4_Int fun (y0 : Arr4_Int) => dV (asI .i64) fun (y1 : Int) => dEnd (ofG (g y0 y1) rx148)
theorem r148_c {g : Arr4_Int → Int → Option Arr4_Int} {y0 : Arr4_Int} {y1 : Int} {x : Arr4_Int} (hx : g y0 y1 = some x) : r148 g [.pointer (some ⟨0, 0, none⟩), .int .i64 y1] [some [.int .u64 y0.e0, .int .u64 y0.e1, .int .u64 y0.e2, .int .u64 y0.e3]] = some (rx148 x) := (dPt_eq (unArr4_Int_c _)).trans ((dV_eq (asI_c _)).trans (ofG_eq hx))
def s148 (g : Arr4_Int → Int → Option Arr4_Int) : Summ := ⟨[.pt 4, .v], r148 g⟩
theorem r148_eq {g : Arr4_Int → Int → Option Arr4_Int} {y0 : Arr4_Int} {y1 : Int} {x : Arr4_Int} (hx : g y0 y1 = some x) : (s148 g).run [.pointer (some ⟨0, 0, none⟩), .int .i64 y1] [some [.int .u64 y0.e0, .int .u64 y0.e1, .int .u64 y0.e2, .int .u64 y0.e3]] = some (rx148 x) := r148_c hx
abbrev sums148 (sip_state_round : Arr4_Int → Option Arr4_Int) : List (Nat × Summ) := [(154, s154 sip_state_round)]
def head148_1 (t : Int) (t7 : Int) (s1 : Int) (s2 : Int) (s3 : Int) (s4 : Int) : VM :=
  ⟨⟨148, 12, [(0, .pointer (some ⟨0, 0, none⟩)), (6, .int .i64 t), (7, .int .i64 t7)], [.code k148_8, .inLoop k148_8, .inBlock 0], [], false, none⟩, [], [(0, .cells [.int .u64 s1, .int .u64 s2, .int .u64 s3, .int .u64 s4])], 1⟩
theorem loop148_1 (sip_state_round : Arr4_Int → Option Arr4_Int) (hS : SumsOK Try.prog (aget (sums148 sip_state_round))) (t : Int) (res : Arr4_Int) : ∀ fuel (st : Int × Int × Int × Int × Int) (o : Arr4_Int), iter (fun st => sip_state_mix_s1 sip_state_round t st.1 st.2.1 st.2.2.1 st.2.2.2.1 st.2.2.2.2) fuel st = some o → (o = res) →
    Leads Try.prog 148 1 (head148_1 t st.1 st.2.1 st.2.2.1 st.2.2.2.1 st.2.2.2.2) (fun v H _ => Res 1 (rx148 res) v H) := by
  intro fuel st o h hc
  refine iter_leads (head := fun st => head148_1 t st.1 st.2.1 st.2.2.1 st.2.2.2.1 st.2.2.2.2) (C := fun o => (o = res)) ?_ fuel st o h hc
  clear h hc o st fuel
  intro st o h hc
  obtain ⟨t7, s1, s2, s3, s4⟩ := st
  replace h : sip_state_mix_s1 sip_state_round t t7 s1 s2 s3 s4 = some o := h
  show Leads Try.prog 148 1 (head148_1 t t7 s1 s2 s3 s4) (fun v H _ => Res 1 (rx148 res) v H)
  unfold sip_state_mix_s1 at h
  refine ev_ok tab_ok hS true 3000 ?_
  conv => whnf
  refine br.h2 h ?_ ?_ ?_
  · rfl
  · clear h; intro hb h; conv => whnf
    all_goals (cases h; cases hc)
    all_goals exact Res.of [] rfl nw_0 (by decide) js_0 (wr_s (rfl) (hs_cells rfl) wr_0)
  clear h; intro hb h; conv => whnf
  replace h := obind.elim h; obtain ⟨xr, hy, h⟩ := h
  refine sumK.introF [0] (sumRun_of (aqs := [.pointer (some ⟨0, 0, none⟩)]) (ws := [.win 0 0 4 true]) (n := 0) (m := 0) (t' := 1) (ra_cons rfl rfl ra_nil) rfl (by rfl) (r154_eq hy) rfl rfl rfl rfl (wb_win rfl rfl rfl ⟨rfl, Nat.le_of_ble_eq_true rfl⟩ rfl rfl wb_nil) an_nil rfl) ?_
  conv => whnf
  cases h; simp only [Sum.elim_inl, head148_1] at hc
  exact lrA0 hc [(0, 0)] rfl
theorem leads148 (sip_state_round : Arr4_Int → Option Arr4_Int) (hS : SumsOK Try.prog (aget (sums148 sip_state_round))) (s : Arr4_Int) (rounds : Int) (res : Arr4_Int) (h : sip_state_mixF sip_state_round s rounds = some res) :
    Leads Try.prog 148 1 ⟨⟨148, 12, [(0, .pointer (some ⟨0, 0, none⟩)), (1, .int .i64 rounds)], [.code k148_11], [], false, none⟩, [], [(0, .cells [.int .u64 s.e0, .int .u64 s.e1, .int .u64 s.e2, .int .u64 s.e3])], 1⟩ (fun v H _ => Res 1 (rx148 res) v H) := by
  unfold sip_state_mixF at h
  refine ev_ok tab_ok hS true 3000 ?_
  conv => whnf
  let t : Int := if (if 64 < rounds then 64 else rounds) > 0 then if 64 < rounds then 64 else rounds else 0
  have hl := loop148_1 sip_state_round hS _ res _ _ _ h rfl; simp only [head148_1] at hl
  exact lrA0 hl [(0, 0)] rfl
theorem ok148 (sip_state_round : Arr4_Int → Option Arr4_Int) (hS : SumsOK Try.prog (aget (sums148 sip_state_round))) : SumOK Try.prog 148 (s148 (sip_state_mixF sip_state_round)) := by
  refine SumOK.of_leads tab_ok (fun ar os r ha hr => ?_) ⟨Try.f148, rfl, by decide, rfl⟩
  replace hr : r148 (sip_state_mixF sip_state_round) ar (conts os) = some r := hr
  unfold r148 at hr
  generalize hc : conts os = C at hr
  have hq := dPt.elim hr; clear hr; obtain ⟨c0, l1, C, y0, rfl, rfl, e0, hr⟩ := hq; obtain rfl := unArr4_Int_eq _ _ e0
  replace hr := dV.elim hr; obtain ⟨v1, l2, y1, rfl, e1, hr⟩ := hr; obtain rfl := asI_eq _ _ _ e1
  replace hr := dFin hr; obtain ⟨rfl, rfl, x, h, rfl⟩ := hr
  obtain ⟨os, rfl, ha, hc⟩ := kinds_some ha hc
  obtain rfl := kinds_nil hc
  exact ⟨_, rfl, leads148 sip_state_round hS _ _ x h⟩
def sip_state_mix : Arr4_Int → Int → Option Arr4_Int := sip_state_mixF sip_state_round
theorem lift148 : SumOK Try.prog 148 (s148 sip_state_mix) := ok148 sip_state_round (SumsOK.of_tab ⟨lift154, trivial⟩)
def sip_state_takeF (sip_state_mix : Arr4_Int → Int → Option Arr4_Int) (s : Arr4_Int) (m : Int) : Option Arr4_Int :=
  (sip_state_mix (Arr4_Int.mk s.e0 s.e1 s.e2 (ixorI .u64 s.e3 m)) 2).bind fun m1 =>
  some (Arr4_Int.mk (ixorI .u64 m1.e0 m) m1.e1 m1.e2 m1.e3)
def rx147 (x : Arr4_Int) : SRes := ⟨.tuple ⟨[]⟩, [], [some [.int .u64 x.e0, .int .u64 x.e1, .int .u64 x.e2, .int .u64 x.e3]]⟩
def r147 (g : Arr4_Int → Int → Option Arr4_Int) : Dec := dPt 0 unArr4_Int fun (y0 : Arr4_Int) => dV (asI .u64) fun (y1 : Int) => dEnd (ofG (g y0 y1) rx147)
theorem r147_c {g : Arr4_Int → Int → Option Arr4_Int} {y0 : Arr4_Int} {y1 : Int} {x : Arr4_Int} (hx : g y0 y1 = some x) : r147 g [.pointer (some ⟨0, 0, none⟩), .int .u64 y1] [some [.int .u64 y0.e0, .int .u64 y0.e1, .int .u64 y0.e2, .int .u64 y0.e3]] = some (rx147 x) := (dPt_eq (unArr4_Int_c _)).trans ((dV_eq (asI_c _)).trans (ofG_eq hx))
def s147 (g : Arr4_Int → Int → Option Arr4_Int) : Summ := ⟨[.pt 4, .v], r147 g⟩
theorem r147_eq {g : Arr4_Int → Int → Option Arr4_Int} {y0 : Arr4_Int} {y1 : Int} {x : Arr4_Int} (hx : g y0 y1 = some x) : (s147 g).run [.pointer (some ⟨0, 0, none⟩), .int .u64 y1] [some [.int .u64 y0.e0, .int .u64 y0.e1, .int .u64 y0.e2, .int .u64 y0.e3]] = some (rx147 x) := r147_c hx
abbrev sums147 (sip_state_mix : Arr4_Int → Int → Option Arr4_Int) : List (Nat × Summ) := [(148, s148 sip_state_mix)]
theorem leads147 (sip_state_mix : Arr4_Int → Int → Option Arr4_Int) (hS : SumsOK Try.prog (aget (sums147 sip_state_mix))) (s : Arr4_Int) (m : Int) (res : Arr4_Int) (h : sip_state_takeF sip_state_mix s m = some res) :
    Leads Try.prog 147 1 ⟨⟨147, 22, [(0, .pointer (some ⟨0, 0, none⟩)), (1, .int .u64 m)], [.code k147_4], [], false, none⟩, [], [(0, .cells [.int .u64 s.e0, .int .u64 s.e1, .int .u64 s.e2, .int .u64 s.e3])], 1⟩ (fun v H _ => Res 1 (rx147 res) v H) := by
  unfold sip_state_takeF at h
  refine ev_ok tab_ok hS true 3000 ?_
  conv => whnf
  replace h := obind.elim h; obtain ⟨m1, hy, h⟩ := h
  refine sumK.introF [0] (sumRun_of (aqs := [.pointer (some ⟨0, 0, none⟩), .int .i64 2]) (ws := [.win 0 0 4 true]) (n := 0) (m := 0) (t' := 8) (ra_cons rfl rfl (ra_cons rfl rfl ra_nil)) rfl (by rfl) (r148_eq hy) rfl rfl rfl rfl (wb_win rfl rfl rfl ⟨rfl, Nat.le_of_ble_eq_true rfl⟩ rfl rfl wb_nil) an_nil rfl) ?_
  conv => whnf
  all_goals (cases h)
  all_goals exact Res.of [] rfl nw_0 (by decide) js_0 (wr_s (rfl) (hs_cells rfl) wr_0)
theorem ok147 (sip_state_mix : Arr4_Int → Int → Option Arr4_Int) (hS : SumsOK Try.prog (aget (sums147 sip_state_mix))) : SumOK Try.prog 147 (s147 (sip_state_takeF sip_state_mix)) := by
  refine SumOK.of_leads tab_ok (fun ar os r ha hr => ?_) ⟨Try.f147, rfl, by decide, rfl⟩
  replace hr : r147 (sip_state_takeF sip_state_mix) ar (conts os) = some r := hr
  unfold r147 at hr
  generalize hc : conts os = C at hr
  have hq := dPt.elim hr; clear hr; obtain ⟨c0, l1, C, y0, rfl, rfl, e0, hr⟩ := hq; obtain rfl := unArr4_Int_eq _ _ e0
  replace hr := dV.elim hr; obtain ⟨v1, l2, y1, rfl, e1, hr⟩ := hr; obtain rfl := asI_eq _ _ _ e1
  replace hr := dFin hr; obtain ⟨rfl, rfl, x, h, rfl⟩ := hr
  obtain ⟨os, rfl, ha, hc⟩ := kinds_some ha hc
  obtain rfl := kinds_nil hc
  exact ⟨_, rfl, leads147 sip_state_mix hS _ _ x h⟩
def sip_state_take : Arr4_Int → Int → Option Arr4_Int := sip_state_takeF sip_state_mix
theorem lift147 : SumOK Try.prog 147 (s147 sip_state_take) := ok147 sip_state_mix (SumsOK.of_tab ⟨lift148, trivial⟩)
def sip_Hasher_Write_s1 (sip_state_take : Arr4_Int → Int → Option Arr4_Int) (ha0 : sip_Hasher) (s : List UInt8) (t18 : Int) (xh : Int) (xh1 : Int) (xh2 : Int) (xh3 : Int) (xh4 : Int) (xh5 : Int) : Option (Sum (Int × Int × Int × Int × Int × Int × Int) sip_Hasher) :=
  cond (decide (t18 < (s.length : Int)))
    (
    oreq (decide ((0 : Int) ≤ t18 ∧ t18 < (s.length : Int))) <|
    ((bI s)[t18.toNat]?).bind fun (e : Int) =>
    oreq (decide (0 ≤ (wI .i64 (8 * (xh5.tmod 8))))) <|
    let t := wI .u64 ((wI .u64 e) * 2 ^ (min (wI .i64 (8 * (xh5.tmod 8))).toNat 64))
    cond (((wI .i64 (xh5 + 1)).tmod 8) == 0)
      (
      (sip_state_take (Arr4_Int.mk xh xh1 xh2 xh3) (iorI .u64 xh4 t)).bind fun t1 =>
      some (.inl (wI .i64 (t18 + 1), t1.e0, t1.e1, t1.e2, t1.e3, 0, wI .i64 (xh5 + 1))))
      (
      some (.inl (wI .i64 (t18 + 1), xh, xh1, xh2, xh3, iorI .u64 xh4 t, wI .i64 (xh5 + 1)))))
    (
    some (.inr (sip_Hasher.mk ha0.made (Arr4_Int.mk xh xh1 xh2 xh3) xh4 xh5)))
def sip_Hasher_WriteF (sip_state_take : Arr4_Int → Int → Option Arr4_Int) (ha0 : sip_Hasher) (s : List UInt8) : Option sip_Hasher :=
  cond (!ha0.made)
    (
    some (ha0))
    (
    iter (fun st => sip_Hasher_Write_s1 sip_state_take ha0 s st.1 st.2.1 st.2.2.1 st.2.2.2.1 st.2.2.2.2.1 st.2.2.2.2.2.1 st.2.2.2.2.2.2) FUEL (0, ha0.s.e0, ha0.s.e1, ha0.s.e2, ha0.s.e3, ha0.last, ha0.count))
def rx133 (x : sip_Hasher) : SRes := ⟨.tuple ⟨[]⟩, [], [some [.bool x.made, .int .u64 x.s.e0, .int .u64 x.s.e1, .int .u64 x.s.e2, .int .u64 x.s.e3, .int .u64 x.last, .int .i64 x.count]]⟩
def r133 (g : sip_Hasher → (List UInt8) → Option sip_Hasher) : Dec := dPt 0 unsip_Hasher fun (y0 : sip_Hasher) => dV asS fun (y1 : List UInt8) => dEnd (ofG (g y0 y1) rx133)
theorem r133_c {g : sip_Hasher → (List UInt8) → Option sip_Hasher} {y0 : sip_Hasher} {y1 : List UInt8} {x : sip_Hasher} (hx : g y0 y1 = some x) : r133 g [.pointer (some ⟨0, 0, none⟩), .string ⟨⟨y1⟩⟩] [some [.bool y0.made, .int .u64 y0.s.e0, .int .u64 y0.s.e1, .int .u64 y0.s.e2, .int .u64 y0.s.e3, .int .u64 y0.last, .int .i64 y0.count]] = some (rx133 x) := (dPt_eq (unsip_Hasher_c _)).trans ((dV_eq (asS_c)).trans (ofG_eq hx))
def s133 (g : sip_Hasher → (List UInt8) → Option sip_Hasher) : Summ := ⟨[.pt 7, .v], r133 g⟩
theorem r133_eq {g : sip_Hasher → (List UInt8) → Option sip_Hasher} {y0 : sip_Hasher} {y1 : List UInt8} {x : sip_Hasher} (hx : g y0 y1 = some x) : (s133 g).run [.pointer (some ⟨0, 0, none⟩), .string ⟨⟨y1⟩⟩] [some [.bool y0.made, .int .u64 y0.s.e0, .int .u64 y0.s.e1, .int .u64 y0.s.e2, .int .u64 y0.s.e3, .int .u64 y0.last, .int .i64 y0.count]] = some (rx133 x) := r133_c hx
abbrev sums133 (sip_state_take : Arr4_Int → Int → Option Arr4_Int) : List (Nat × Summ) := [(147, s147 sip_state_take)]
def head133_1 (ha0 : sip_Hasher) (s : List UInt8) (t18 : Int) (xh : Int) (xh1 : Int) (xh2 : Int) (xh3 : Int) (xh4 : Int) (xh5 : Int) : VM :=
  ⟨⟨133, 63, [(0, .pointer (some ⟨0, 0, none⟩)), (16, .slice (some ⟨1, 0, none⟩) s.length 1), (17, .int .i64 (s.length : Int)), (18, .int .i64 t18)], [.code k133_22, .inLoop k133_22, .inBlock 0], [], false, none⟩, [], [(0, .cells [.bool ha0.made, .int .u64 xh, .int .u64 xh1, .int .u64 xh2, .int .u64 xh3, .int .u64 xh4, .int .i64 xh5]), (1, .row true (vI .u8 (bI s)))], 2⟩
theorem loop133_1 (sip_state_take : Arr4_Int → Int → Option Arr4_Int) (hS : SumsOK Try.prog (aget (sums133 sip_state_take))) (ha0 : sip_Hasher) (s : List UInt8) (res : sip_Hasher) : ∀ fuel (st : Int × Int × Int × Int × Int × Int × Int) (o : sip_Hasher), iter (fun st => sip_Hasher_Write_s1 sip_state_take ha0 s st.1 st.2.1 st.2.2.1 st.2.2.2.1 st.2.2.2.2.1 st.2.2.2.2.2.1 st.2.2.2.2.2.2) fuel st = some o → (o = res) →
    Leads Try.prog 133 1 (head133_1 ha0 s st.1 st.2.1 st.2.2.1 st.2.2.2.1 st.2.2.2.2.1 st.2.2.2.2.2.1 st.2.2.2.2.2.2) (fun v H _ => Res 1 (rx133 res) v H) := by
  intro fuel st o h hc
  refine iter_leads (head := fun st => head133_1 ha0 s st.1 st.2.1 st.2.2.1 st.2.2.2.1 st.2.2.2.2.1 st.2.2.2.2.2.1 st.2.2.2.2.2.2) (C := fun o => (o = res)) ?_ fuel st o h hc
  clear h hc o st fuel
  intro st o h hc
  obtain ⟨t18, xh, xh1, xh2, xh3, xh4, xh5⟩ := st
  replace h : sip_Hasher_Write_s1 sip_state_take ha0 s t18 xh xh1 xh2 xh3 xh4 xh5 = some o := h
  show Leads Try.prog 133 1 (head133_1 ha0 s t18 xh xh1 xh2 xh3 xh4 xh5) (fun v H _ => Res 1 (rx133 res) v H)
  unfold sip_Hasher_Write_s1 at h
  refine ev_ok tab_ok hS true 3000 ?_
  conv => whnf
  refine br.h2 h ?_ ?_ ?_
  · rfl
  · clear h; intro hb h; conv => whnf
    all_goals (cases h; cases hc)
    all_goals exact Res.of [] rfl nw_0 (by decide) js_0 (wr_s (rfl) (hs_cells rfl) wr_0)
  clear h; intro hb h; conv => whnf
  replace h := oreq.elim h; obtain ⟨hb, h⟩ := h
  first | (refine req.intro hb ?_; conv => whnf) | skip
  replace h := obind.elim h; obtain ⟨e, hy, h⟩ := h
  refine rd.I hy (by first | rfl | (rw [Nat.zero_add, Nat.mul_one]; try rfl; done) | omega) ?_
  conv => whnf
  replace h := oreq.elim h; obtain ⟨hb, h⟩ := h
  first | (refine req.intro hb ?_; conv => whnf) | skip
  let t : Int := wI .u64 ((wI .u64 e) * 2 ^ (min (wI .i64 (8 * (xh5.tmod 8))).toNat 64))
  refine br.h2 h ?_ ?_ ?_
  · rfl
  · clear h; intro hb h; conv => whnf
    cases h; simp only [Sum.elim_inl, head133_1] at hc
    exact lrA0 hc [(0, 0), (1, 1)] rfl
  clear h; intro hb h; conv => whnf
  replace h := obind.elim h; obtain ⟨t1, hy, h⟩ := h
  refine sumK.introF [0] (sumRun_of (aqs := [.pointer (some ⟨0, 0, none⟩), .int .u64 (iorI .u64 xh4 t)]) (ws := [.win 0 1 4 true]) (n := 0) (m := 0) (t' := 22) (ra_cons rfl rfl (ra_cons rfl rfl ra_nil)) rfl (by rfl) (r147_eq hy) rfl rfl rfl rfl (wb_win rfl rfl rfl ⟨rfl, Nat.le_of_ble_eq_true rfl⟩ rfl rfl wb_nil) an_nil rfl) ?_
  conv => whnf
  cases h; simp only [Sum.elim_inl, head133_1] at hc
  exact lrA0 hc [(0, 0), (1, 1)] rfl
theorem leads133 (sip_state_take : Arr4_Int → Int → Option Arr4_Int) (hS : SumsOK Try.prog (aget (sums133 sip_state_take))) (ha0 : sip_Hasher) (s : List UInt8) (res : sip_Hasher) (h : sip_Hasher_WriteF sip_state_take ha0 s = some res) :
    Leads Try.prog 133 1 ⟨⟨133, 63, [(0, .pointer (some ⟨0, 0, none⟩)), (1, .string ⟨⟨s⟩⟩)], [.code k133_26], [], false, none⟩, [], [(0, .cells [.bool ha0.made, .int .u64 ha0.s.e0, .int .u64 ha0.s.e1, .int .u64 ha0.s.e2, .int .u64 ha0.s.e3, .int .u64 ha0.last, .int .i64 ha0.count])], 1⟩ (fun v H _ => Res 1 (rx133 res) v H) := by
  unfold sip_Hasher_WriteF at h
  refine ev_ok tab_ok hS true 3000 ?_
  conv => whnf
  refine br.h h ?_ ?_ ?_
  · rfl
  · clear h; intro hb h; conv => whnf
    all_goals (cases h)
    all_goals exact Res.of [] rfl nw_0 (by decide) js_0 (wr_s (rfl) (hs_cells rfl) wr_0)
  clear h; intro hb h; conv => whnf
  refine pk_s2b ?_
  conv => whnf
  have hl := loop133_1 sip_state_take hS _ _ res _ _ _ h rfl; simp only [head133_1] at hl
  exact lrA0 hl [(0, 0), (1, 1)] rfl
theorem ok133 (sip_state_take : Arr4_Int → Int → Option Arr4_Int) (hS : SumsOK Try.prog (aget (sums133 sip_state_take))) : SumOK Try.prog 133 (s133 (sip_Hasher_WriteF sip_state_take)) := by
  refine SumOK.of_leads tab_ok (fun ar os r ha hr => ?_) ⟨Try.f133, rfl, by decide, rfl⟩
  replace hr : r133 (sip_Hasher_WriteF sip_state_take) ar (conts os) = some r := hr
  unfold r133 at hr
  generalize hc : conts os = C at hr
  have hq := dPt.elim hr; clear hr; obtain ⟨c0, l1, C, y0, rfl, rfl, e0, hr⟩ := hq; obtain rfl := unsip_Hasher_eq _ _ e0
  replace hr := dV.elim hr; obtain ⟨v1, l2, y1, rfl, e1, hr⟩ := hr; obtain rfl := asS_eq _ _ e1
  replace hr := dFin hr; obtain ⟨rfl, rfl, x, h, rfl⟩ := hr
  obtain ⟨os, rfl, ha, hc⟩ := kinds_some ha hc
  obtain rfl := kinds_nil hc
  exact ⟨_, rfl, leads133 sip_state_take hS _ _ x h⟩
def sip_Hasher_Write : sip_Hasher → (List UInt8) → Option sip_Hasher := sip_Hasher_WriteF sip_state_take
theorem lift133 : SumOK Try.prog 133 (s133 sip_Hasher_Write) := ok133 sip_state_take (SumsOK.of_tab ⟨lift147, trivial⟩)
def sip_Hasher_SumF (sip_state_mix : Arr4_Int → Int → Option Arr4_Int) (sip_state_take : Arr4_Int → Int → Option Arr4_Int) (ha0 : sip_Hasher) : Option (Int × sip_Hasher) :=
  cond (!ha0.made)
    (
    some ((0, ha0)))
    (
    let t := iorI .u64 ha0.last (wI .u64 ((wI .u64 ha0.count) * 2 ^ 56))
    (sip_state_take ha0.s t).bind fun t1 =>
    (sip_state_mix (Arr4_Int.mk t1.e0 t1.e1 (ixorI .u64 t1.e2 255) t1.e3) 4).bind fun m =>
    let t2 := ixorI .u64 (ixorI .u64 (ixorI .u64 m.e0 m.e1) m.e2) m.e3
    some ((t2, ha0)))
def rx134 (x : Int × sip_Hasher) : SRes := ⟨.int .u64 x.1, [], [some [.bool x.2.made, .int .u64 x.2.s.e0, .int .u64 x.2.s.e1, .int .u64 x.2.s.e2, .int .u64 x.2.s.e3, .int .u64 x.2.last, .int .i64 x.2.count]]⟩
def r134 (g : sip_Hasher → Option (Int × sip_Hasher)) : Dec := dPt 0 unsip_Hasher fun (y0 : sip_Hasher) => dEnd (ofG (g y0) rx134)
theorem r134_c {g : sip_Hasher → Option (Int × sip_Hasher)} {y0 : sip_Hasher} {x : Int × sip_Hasher} (hx : g y0 = some x) : r134 g [.pointer (some ⟨0, 0, none⟩)] [some [.bool y0.made, .int .u64 y0.s.e0, .int .u64 y0.s.e1, .int .u64 y0.s.e2, .int .u64 y0.s.e3, .int .u64 y0.last, .int .i64 y0.count]] = some (rx134 x) := (dPt_eq (unsip_Hasher_c _)).trans (ofG_eq hx)
def s134 (g : sip_Hasher → Option (Int × sip_Hasher)) : Summ := ⟨[.pt 7], r134 g⟩
theorem r134_eq {g : sip_Hasher → Option (Int × sip_Hasher)} {y0 : sip_Hasher} {x : Int × sip_Hasher} (hx : g y0 = some x) : (s134 g).run [.pointer (some ⟨0, 0, none⟩)] [some [.bool y0.made, .int .u64 y0.s.e0, .int .u64 y0.s.e1, .int .u64 y0.s.e2, .int .u64 y0.s.e3, .int .u64 y0.last, .int .i64 y0.count]] = some (rx134 x) := r134_c hx
abbrev sums134 (sip_state_mix : Arr4_Int → Int → Option Arr4_Int) (sip_state_take : Arr4_Int → Int → Option Arr4_Int) : List (Nat × Summ) := [(148, s148 sip_state_mix), (147, s147 sip_state_take)]
theorem leads134 (sip_state_mix : Arr4_Int → Int → Option Arr4_Int) (sip_state_take : Arr4_Int → Int → Option Arr4_Int) (hS : SumsOK Try.prog (aget (sums134 sip_state_mix sip_state_take))) (ha0 : sip_Hasher) (res : Int × sip_Hasher) (h : sip_Hasher_SumF sip_state_mix sip_state_take ha0 = some res) :
    Leads Try.prog 134 1 ⟨⟨134, 45, [(0, .pointer (some ⟨0, 0, none⟩))], [.code k134_17], [], false, none⟩, [], [(0, .cells [.bool ha0.made, .int .u64 ha0.s.e0, .int .u64 ha0.s.e1, .int .u64 ha0.s.e2, .int .u64 ha0.s.e3, .int .u64 ha0.last, .int .i64 ha0.count])], 1⟩ (fun v H _ => Res 1 (rx134 res) v H) := by
  unfold sip_Hasher_SumF at h
  refine ev_ok tab_ok hS true 3000 ?_
  conv => whnf
  refine br.h h ?_ ?_ ?_
  · rfl
  · clear h; intro hb h; conv => whnf
    all_goals (cases h)
    all_goals exact Res.of [] rfl nw_0 (by decide) js_0 (wr_s (rfl) (hs_cells rfl) wr_0)
  clear h; intro hb h; conv => whnf
  let t : Int := iorI .u64 ha0.last (wI .u64 ((wI .u64 ha0.count) * 2 ^ 56))
  replace h := obind.elim h; obtain ⟨t1, hy, h⟩ := h
  refine sumK.introF [1] (sumRun_of (aqs := [.pointer (some ⟨0, 0, none⟩), .int .u64 t]) (ws := [.win 1 0 4 true]) (n := 0) (m := 0) (t' := 12) (ra_cons rfl rfl (ra_cons rfl rfl ra_nil)) rfl (by rfl) (r147_eq hy) rfl rfl rfl rfl (wb_win rfl rfl rfl ⟨rfl, Nat.le_of_ble_eq_true rfl⟩ rfl rfl wb_nil) an_nil rfl) ?_
  conv => whnf
  replace h := obind.elim h; obtain ⟨m, hy, h⟩ := h
  refine sumK.introF [1] (sumRun_of (aqs := [.pointer (some ⟨0, 0, none⟩), .int .i64 4]) (ws := [.win 1 0 4 true]) (n := 0) (m := 0) (t' := 12) (ra_cons rfl rfl (ra_cons rfl rfl ra_nil)) rfl (by rfl) (r148_eq hy) rfl rfl rfl rfl (wb_win rfl rfl rfl ⟨rfl, Nat.le_of_ble_eq_true rfl⟩ rfl rfl wb_nil) an_nil rfl) ?_
  conv => whnf
  let t2 : Int := ixorI .u64 (ixorI .u64 (ixorI .u64 m.e0 m.e1) m.e2) m.e3
  all_goals (cases h)
  all_goals exact Res.of [] rfl nw_0 (by decide) js_0 (wr_s (rfl) (hs_cells rfl) wr_0)
theorem ok134 (sip_state_mix : Arr4_Int → Int → Option Arr4_Int) (sip_state_take : Arr4_Int → Int → Option Arr4_Int) (hS : SumsOK Try.prog (aget (sums134 sip_state_mix sip_state_take))) : SumOK Try.prog 134 (s134 (sip_Hasher_SumF sip_state_mix sip_state_take)) := by
  refine SumOK.of_leads tab_ok (fun ar os r ha hr => ?_) ⟨Try.f134, rfl, by decide, rfl⟩
  replace hr : r134 (sip_Hasher_SumF sip_state_mix sip_state_take) ar (conts os) = some r := hr
  unfold r134 at hr
  generalize hc : conts os = C at hr
  have hq := dPt.elim hr; clear hr; obtain ⟨c0, l1, C, y0, rfl, rfl, e0, hr⟩ := hq; obtain rfl := unsip_Hasher_eq _ _ e0
  replace hr := dFin hr; obtain ⟨rfl, rfl, x, h, rfl⟩ := hr
  obtain ⟨os, rfl, ha, hc⟩ := kinds_some ha hc
  obtain rfl := kinds_nil hc
  exact ⟨_, rfl, leads134 sip_state_mix sip_state_take hS _ x h⟩
def sip_Hasher_Sum : sip_Hasher → Option (Int × sip_Hasher) := sip_Hasher_SumF sip_state_mix sip_state_take
theorem lift134 : SumOK Try.prog 134 (s134 sip_Hasher_Sum) := ok134 sip_state_mix sip_state_take (SumsOK.of_tab ⟨lift148, lift147, trivial⟩)
end Go.Vm.Code
namespace Go.Vm.Code
open Go Go.Vm
def trn (x k : Int) : Int := (R12_turn x k).getD 0
theorem turn_eq {x k : Int} (h0 : 0 ≤ k) (h1 : k ≤ 64) : R12_turn x k = some (trn x k) := by
  unfold trn R12_turn R12_turnF
  rw [oreq_p h0, wI64 (n := 64 - k) (by omega) (by omega), oreq_p (by omega)]; rfl
theorem rot_turn {x k : Int} (h : k = 13 ∨ k = 16 ∨ k = 17 ∨ k = 21 ∨ k = 32) : math_bits_RotateLeft64 x k = R12_turn x k := by
  have e1 : andI .u64 (wI .u64 k) 63 = k := by rcases h with rfl | rfl | rfl | rfl | rfl <;> decide +kernel
  have e2 : wI .u64 (64 - k) = 64 - k := wU64 (by omega) (by omega)
  have e3 : wI .i64 (64 - k) = 64 - k := wI64 (by omega) (by omega)
  unfold math_bits_RotateLeft64 math_bits_RotateLeft64F R12_turn R12_turnF
  rw [e1, e2, e3]
theorem rot_eq {x k : Int} (h : k = 13 ∨ k = 16 ∨ k = 17 ∨ k = 21 ∨ k = 32) : math_bits_RotateLeft64 x k = some (trn x k) := by
  rw [rot_turn h]; exact turn_eq (by omega) (by omega)
def rnd (s : Arr4_Int) : Arr4_Int :=
  let a1 := wI .u64 (s.e0 + s.e1)
  let b1 := ixorI .u64 (trn s.e1 13) a1
  let c1 := wI .u64 (s.e2 + s.e3)
  let d1 := ixorI .u64 (trn s.e3 16) c1
  let t := wI .u64 (trn a1 32 + d1)
  let t1 := wI .u64 (c1 + b1)
  ⟨t, ixorI .u64 (trn b1 17) t1, trn t1 32, ixorI .u64 (trn d1 21) t⟩
theorem round_eq (s : Arr4_Int) : sip_state_round s = some (rnd s) := by
  unfold sip_state_round sip_state_roundF
  simp only [rot_eq (k := 13) (by omega), rot_eq (k := 16) (by omega), rot_eq (k := 17) (by omega), rot_eq (k := 21) (by omega), rot_eq (k := 32) (by omega), Option.bind_some]
  rfl
theorem Round_eq (a b c d : Int) : R12_Round a b c d = some ((rnd ⟨a, b, c, d⟩).e0, (rnd ⟨a, b, c, d⟩).e1, (rnd ⟨a, b, c, d⟩).e2, (rnd ⟨a, b, c, d⟩).e3) := by
  unfold R12_Round R12_RoundF
  simp only [turn_eq (k := 13) (by omega) (by omega), turn_eq (k := 16) (by omega) (by omega), turn_eq (k := 17) (by omega) (by omega), turn_eq (k := 21) (by omega) (by omega), turn_eq (k := 32) (by omega) (by omega), Option.bind_some]
  rfl
def rnds : Nat → Arr4_Int → Arr4_Int
  | 0, q => q
  | n + 1, q => rnds n (rnd q)
def cnt (n : Int) : Nat := (if (if 64 < n then 64 else n) > 0 then if 64 < n then 64 else n else 0 : Int).toNat
theorem mix_eq (s : Arr4_Int) (n : Int) : sip_state_mix s n = some (rnds (cnt n) s) := by
  unfold sip_state_mix sip_state_mixF cnt
  generalize ht : (if (if 64 < n then 64 else n) > 0 then if 64 < n then 64 else n else 0 : Int) = t
  have hb : 0 ≤ t ∧ t ≤ 64 := by rw [← ht]; split <;> split <;> omega
  have key := iter_eq (step := fun (st : Int × Int × Int × Int × Int) => sip_state_mix_s1 sip_state_round t st.1 st.2.1 st.2.2.1 st.2.2.2.1 st.2.2.2.2) (fun st => rnds (t - st.1).toNat ⟨st.2.1, st.2.2.1, st.2.2.2.1, st.2.2.2.2⟩) (fun st => 0 ≤ st.1 ∧ st.1 ≤ t) (fun st => (t - st.1).toNat) ?_ FUEL (0, s.e0, s.e1, s.e2, s.e3) ⟨by simp, hb.1⟩ (by rw [FUEL_eq]; simp only; omega)
  · simp only [] at key ⊢
    rw [key]; simp
  rintro ⟨i, a, b, c, d⟩ ⟨g1, g2⟩
  simp only at g1 g2 ⊢
  unfold sip_state_mix_s1
  by_cases hi : i < t
  · refine .inr ⟨(i + 1, (rnd ⟨a, b, c, d⟩).e0, (rnd ⟨a, b, c, d⟩).e1, (rnd ⟨a, b, c, d⟩).e2, (rnd ⟨a, b, c, d⟩).e3), ?_, ⟨by simp only; omega, by simp only; omega⟩, by simp only; omega, ?_⟩
    · rw [cond_p hi, round_eq, Option.bind_some, wI64 (by omega) (by omega)]
    · simp only []
      have e : (t - i).toNat = (t - (i + 1)).toNat + 1 := by omega
      rw [e]; rfl
  · refine .inl ?_
    rw [cond_n hi]
    have e : (t - i).toNat = 0 := by omega
    simp only [e, rnds]
theorem Mix_eq (a b c d n : Int) : R12_Mix a b c d n = some (rnds (cnt n) ⟨a, b, c, d⟩) := by
  unfold R12_Mix R12_MixF
  have hc : ∀ i : Int, 0 ≤ i → i ≤ cnt n → (i < cnt n ↔ i < n ∧ i < 64) := by
    intro i h0 h1
    revert h1
    unfold cnt
    split <;> split <;> omega
  have hb : (cnt n : Int) ≤ 64 := by unfold cnt; split <;> split <;> omega
  have key := iter_eq (step := fun (st : Int × Int × Int × Int × Int) => R12_Mix_s1 R12_Round n st.1 st.2.1 st.2.2.1 st.2.2.2.1 st.2.2.2.2) (fun st => rnds (cnt n - st.2.2.2.2).toNat ⟨st.1, st.2.1, st.2.2.1, st.2.2.2.1⟩) (fun st => 0 ≤ st.2.2.2.2 ∧ st.2.2.2.2 ≤ cnt n) (fun st => (cnt n - st.2.2.2.2).toNat) ?_ FUEL (a, b, c, d, 0) ⟨by simp, by simp⟩ (by rw [FUEL_eq]; simp only; omega)
  · rw [key]; simp
  rintro ⟨a, b, c, d, i⟩ ⟨g1, g2⟩
  simp only at g1 g2 ⊢
  unfold R12_Mix_s1
  have hh := hc i g1 g2
  by_cases hi : i < cnt n
  · obtain ⟨h1, h2⟩ := hh.1 hi
    refine .inr ⟨((rnd ⟨a, b, c, d⟩).e0, (rnd ⟨a, b, c, d⟩).e1, (rnd ⟨a, b, c, d⟩).e2, (rnd ⟨a, b, c, d⟩).e3, i + 1), ?_, ⟨by simp only; omega, by simp only; omega⟩, by simp only; omega, ?_⟩
    · rw [cond_p h1, cond_p h2, Round_eq, Option.bind_some, wI64 (by omega) (by omega)]
    · simp only []
      have e : ((cnt n : Int) - i).toNat = ((cnt n : Int) - (i + 1)).toNat + 1 := by omega
      rw [e]; rfl
  · refine .inl ?_
    have e : ((cnt n : Int) - i).toNat = 0 := by omega
    simp only [e, rnds]
    by_cases h1 : i < n
    · rw [cond_p h1, cond_n (by omega)]
    · rw [cond_n h1]
def tak (s : Arr4_Int) (m : Int) : Arr4_Int :=
  let q := rnds 2 ⟨s.e0, s.e1, s.e2, ixorI .u64 s.e3 m⟩
  ⟨ixorI .u64 q.e0 m, q.e1, q.e2, q.e3⟩
theorem take_eq (s : Arr4_Int) (m : Int) : sip_state_take s m = some (tak s m) := by
  unfold sip_state_take sip_state_takeF
  rw [mix_eq, show cnt 2 = 2 from rfl, Option.bind_some]
  simp only [tak]
def wrT (T : Arr4_Int → Int → Arr4_Int) (h : sip_Hasher) (b : UInt8) : sip_Hasher :=
  let m := iorI .u64 h.last (wI .u64 ((b.toNat : Int) * 2 ^ (8 * (h.count.toNat % 8))))
  if (h.count.toNat + 1) % 8 = 0 then ⟨h.made, T h.s m, 0, h.count + 1⟩ else ⟨h.made, h.s, m, h.count + 1⟩
theorem WriteF_eq (T : Arr4_Int → Int → Arr4_Int) {h : sip_Hasher} {s : List UInt8} (hm : h.made = true) (h0 : 0 ≤ h.count) (h1 : h.count + s.length < 2 ^ 62) : sip_Hasher_WriteF (fun q m => some (T q m)) h s = some (s.foldl (wrT T) h) := by
  unfold sip_Hasher_WriteF
  rw [hm, Bool.not_true, cond_false]
  have key := iter_eq (step := fun (st : Int × Int × Int × Int × Int × Int × Int) => sip_Hasher_Write_s1 (fun q m => some (T q m)) h s st.1 st.2.1 st.2.2.1 st.2.2.2.1 st.2.2.2.2.1 st.2.2.2.2.2.1 st.2.2.2.2.2.2)
    (fun st => (s.drop st.1.toNat).foldl (wrT T) ⟨true, ⟨st.2.1, st.2.2.1, st.2.2.2.1, st.2.2.2.2.1⟩, st.2.2.2.2.2.1, st.2.2.2.2.2.2⟩) (fun st => 0 ≤ st.1 ∧ st.1 ≤ s.length ∧ st.2.2.2.2.2.2 = h.count + st.1) (fun st => (s.length - st.1).toNat) ?_ FUEL (0, h.s.e0, h.s.e1, h.s.e2, h.s.e3, h.last, h.count) ⟨by simp, by simp, by simp⟩ (by rw [FUEL_eq]; simp only; omega)
  · rw [key]
    simp only [Int.toNat_zero, List.drop_zero]
    rw [← hm]
  rintro ⟨p, a, b, c, d, l, n⟩ ⟨g1, g2, g3⟩
  simp only at g1 g2 g3 ⊢
  obtain ⟨i, rfl⟩ := Int.eq_ofNat_of_zero_le g1
  obtain ⟨k, hk⟩ := Int.eq_ofNat_of_zero_le (show 0 ≤ n by omega)
  subst hk
  simp only [Int.toNat_natCast]
  unfold sip_Hasher_Write_s1
  by_cases hi : i < s.length
  · have hb := s[i].toNat_lt
    have e1 : (bI s)[i]? = some (s[i].toNat : Int) := by simp [bI, hi]
    have e2 : ((k : Int).tmod 8) = ((k % 8 : Nat) : Int) := by rw [Int.tmod_eq_emod_of_nonneg (by omega)]; rfl
    have e3 : min (8 * ((k % 8 : Nat) : Int)).toNat 64 = 8 * (k % 8) := by omega
    have e4 : (((k : Int) + 1).tmod 8 == 0) = decide ((k + 1) % 8 = 0) := by
      rw [Int.tmod_eq_emod_of_nonneg (by omega), Bool.eq_iff_iff, beq_iff_eq, decide_eq_true_eq]; omega
    refine .inr ⟨(((i + 1 : Nat) : Int), (wrT T ⟨true, ⟨a, b, c, d⟩, l, k⟩ s[i]).s.e0, (wrT T ⟨true, ⟨a, b, c, d⟩, l, k⟩ s[i]).s.e1, (wrT T ⟨true, ⟨a, b, c, d⟩, l, k⟩ s[i]).s.e2, (wrT T ⟨true, ⟨a, b, c, d⟩, l, k⟩ s[i]).s.e3, (wrT T ⟨true, ⟨a, b, c, d⟩, l, k⟩ s[i]).last, (k : Int) + 1), ?_, ⟨by simp only; omega, by simp only; omega, by simp only; omega⟩, by simp only; omega, ?_⟩
    · simp (disch := omega) only [cond_p, oreq_p, Int.toNat_natCast, e1, Option.bind_some, e2, wI64, e3, e4, wU64 (n := (s[i].toNat : Int)), cond_dec]
      unfold wrT
      simp only [Int.toNat_natCast]
      split <;> rfl
    · simp only [Int.toNat_natCast]
      rw [List.drop_eq_getElem_cons hi, List.foldl_cons]
      congr 1
      unfold wrT
      simp only [Int.toNat_natCast]
      split <;> rfl
  · refine .inl ?_
    rw [cond_n (by omega), List.drop_eq_nil_of_le (by omega), hm]; rfl
def wrB : sip_Hasher → UInt8 → sip_Hasher := wrT tak
theorem Write_eq {h : sip_Hasher} {s : List UInt8} (hm : h.made = true) (h0 : 0 ≤ h.count) (h1 : h.count + s.length < 2 ^ 62) : sip_Hasher_Write h s = some (s.foldl wrB h) := by
  unfold sip_Hasher_Write
  rw [show sip_state_take = fun q m => some (tak q m) from funext fun q => funext fun m => take_eq q m]
  exact WriteF_eq tak hm h0 h1
theorem wrT_made (T : Arr4_Int → Int → Arr4_Int) (h : sip_Hasher) (b : UInt8) : (wrT T h b).made = h.made := by unfold wrT; simp only; split <;> rfl
theorem wrT_count (T : Arr4_Int → Int → Arr4_Int) (h : sip_Hasher) (b : UInt8) : (wrT T h b).count = h.count + 1 := by unfold wrT; simp only; split <;> rfl
theorem wrB_made (h : sip_Hasher) (b : UInt8) : (wrB h b).made = h.made := wrT_made tak h b
theorem wrB_count (h : sip_Hasher) (b : UInt8) : (wrB h b).count = h.count + 1 := wrT_count tak h b
theorem wrL : ∀ (s : List UInt8) (h : sip_Hasher), (s.foldl wrB h).made = h.made ∧ (s.foldl wrB h).count = h.count + s.length
  | [], h => ⟨rfl, by simp⟩
  | b :: s, h => by
    obtain ⟨a1, a2⟩ := wrL s (wrB h b)
    rw [List.foldl_cons, a1, a2, wrB_made, wrB_count, List.length_cons]
    exact ⟨rfl, by omega⟩
def sumV (h : sip_Hasher) : Int :=
  let t := tak h.s (iorI .u64 h.last (wI .u64 ((wI .u64 h.count) * 2 ^ 56)))
  let m := rnds 4 ⟨t.e0, t.e1, ixorI .u64 t.e2 255, t.e3⟩
  ixorI .u64 (ixorI .u64 (ixorI .u64 m.e0 m.e1) m.e2) m.e3
theorem Sum_eq {h : sip_Hasher} (hm : h.made = true) : sip_Hasher_Sum h = some (sumV h, h) := by
  unfold sip_Hasher_Sum sip_Hasher_SumF
  rw [hm, Bool.not_true, cond_false]
  simp only [take_eq, mix_eq, Option.bind_some, show cnt 4 = 4 from rfl, sumV]
def newV (k : api_Key) : sip_Hasher := ⟨true, ⟨ixorI .u64 8317987319222330741 k.A, ixorI .u64 7237128888997146477 k.B, ixorI .u64 7816392313619706465 k.A, ixorI .u64 8387220255154660723 k.B⟩, 0, 0⟩
theorem New_eq (k : api_Key) : sip_New k = some (newV k) := rfl
end Go.Vm.Code
namespace Go.Vm.Code
open Go Go.Vm Go.Proofs
set_option maxRecDepth 100000
set_option maxHeartbeats 4000000
set_option linter.unusedVariables false
def R12_word_s1 (s : List UInt8) (n : Int) (i : Int) : Option (Sum (Int × Int) Int) :=
  cond (decide (i ≥ 0))
    (
    oreq (decide (0 ≤ i)) <|
    (s[i.toNat]?).bind fun (b : UInt8) =>
    let t := wI .u64 ((wI .u64 (n * 2 ^ 8)) + (wI .u64 (b.toNat : Int)))
    some (.inl (t, wI .i64 (i - 1))))
    (
    some (.inr (n)))
def R12_wordF (s : List UInt8) : Option Int :=
  iter (fun st => R12_word_s1 s st.1 st.2) FUEL (0, wI .i64 ((s.length : Int) - 1))
def rx135 (x : Int) : SRes := ⟨.int .u64 x, [], []⟩
def r135 (g : (List UInt8) → Option Int) : Dec := dV asS fun (y0 : List UInt8) => dEnd (ofG (g y0) rx135)
theorem r135_c {g : (List UInt8) → Option Int} {y0 : List UInt8} {x : Int} (hx : g y0 = some x) : r135 g [.string ⟨⟨y0⟩⟩] [] = some (rx135 x) := (dV_eq (asS_c)).trans (ofG_eq hx)
def s135 (g : (List UInt8) → Option Int) : Summ := ⟨[.v], r135 g⟩
theorem r135_eq {g : (List UInt8) → Option Int} {y0 : List UInt8} {x : Int} (hx : g y0 = some x) : (s135 g).run [.string ⟨⟨y0⟩⟩] [] = some (rx135 x) := r135_c hx
abbrev sums135 : List (Nat × Summ) := []
def head135_1 (s : List UInt8) (n : Int) (i : Int) : VM :=
  ⟨⟨135, 20, [(0, .string ⟨⟨s⟩⟩), (3, .int .u64 n), (4, .int .i64 i)], [.code k135_10, .inLoop k135_10, .inBlock 0, .code k135_15], [], false, none⟩, [], [], 0⟩
theorem loop135_1 (hS : SumsOK Try.prog (aget (sums135))) (s : List UInt8) (res : Int) : ∀ fuel (st : Int × Int) (o : Int), iter (fun st => R12_word_s1 s st.1 st.2) fuel st = some o → (o = res) →
    Leads Try.prog 135 0 (head135_1 s st.1 st.2) (fun v H _ => Res 0 (rx135 res) v H) := by
  intro fuel st o h hc
  refine iter_leads (head := fun st => head135_1 s st.1 st.2) (C := fun o => (o = res)) ?_ fuel st o h hc
  clear h hc o st fuel
  intro st o h hc
  obtain ⟨n, i⟩ := st
  replace h : R12_word_s1 s n i = some o := h
  show Leads Try.prog 135 0 (head135_1 s n i) (fun v H _ => Res 0 (rx135 res) v H)
  unfold R12_word_s1 at h
  refine ev_ok tab_ok hS true 3000 ?_
  conv => whnf
  refine br.h2 h ?_ ?_ ?_
  · rfl
  · clear h; intro hb h; conv => whnf
    all_goals (cases h; cases hc; exact Res.z rfl rfl rfl)
  clear h; intro hb h; conv => whnf
  replace h := oreq.elim h; obtain ⟨hb, h⟩ := h
  first | (refine req.intro hb ?_; conv => whnf) | skip
  replace h := obind.elim h; obtain ⟨b, hy, h⟩ := h
  refine rdS.intro hy ?_
  conv => whnf
  let t : Int := wI .u64 ((wI .u64 (n * 2 ^ 8)) + (wI .u64 (b.toNat : Int)))
  cases h; simp only [Sum.elim_inl, head135_1] at hc
  exact lrA0 hc [] rfl
theorem leads135 (hS : SumsOK Try.prog (aget (sums135))) (s : List UInt8) (res : Int) (h : R12_wordF s = some res) :
    Leads Try.prog 135 0 ⟨⟨135, 20, [(0, .string ⟨⟨s⟩⟩)], [.code k135_18], [], false, none⟩, [], [], 0⟩ (fun v H _ => Res 0 (rx135 res) v H) := by
  unfold R12_wordF at h
  refine ev_ok tab_ok hS true 3000 ?_
  conv => whnf
  have hl := loop135_1 hS _ res _ _ _ h rfl; simp only [head135_1] at hl
  exact lrA0 hl [] rfl
theorem ok135 (hS : SumsOK Try.prog (aget (sums135))) : SumOK Try.prog 135 (s135 (R12_wordF)) := by
  refine SumOK.of_leads tab_ok (fun ar os r ha hr => ?_) ⟨Try.f135, rfl, by decide, rfl⟩
  replace hr : r135 (R12_wordF) ar (conts os) = some r := hr
  unfold r135 at hr
  generalize hc : conts os = C at hr
  replace hr := dV.elim hr; obtain ⟨v0, l1, y0, rfl, e0, hr⟩ := hr; obtain rfl := asS_eq _ _ e0
  replace hr := dFin hr; obtain ⟨rfl, rfl, x, h, rfl⟩ := hr
  obtain rfl := kinds_nil hc
  exact ⟨_, rfl, leads135 hS _ x h⟩
def R12_word : (List UInt8) → Option Int := R12_wordF
theorem lift135 : SumOK Try.prog 135 (s135 R12_word) := ok135 (SumsOK.of_tab trivial)
def R12_Hash_s1 (R12_Round : Int → Int → Int → Int → Option (Int × Int × Int × Int)) (s : List UInt8) (t : Int) (i : Int) (a1 : Int) (b1 : Int) (c1 : Int) (d1 : Int) (m : Int) (n : Int) : Option (Sum (Int × Int × Int × Int × Int × Int) (Sum (Int × Int × Int × Int × Int) Int)) :=
  cond (decide (n < 2))
    (
    (R12_Round a1 b1 c1 d1).bind fun xr =>
    some (.inl (xr.1, xr.2.1, xr.2.2.1, xr.2.2.2, m, wI .i64 (n + 1))))
    (
    some (.inr (.inl (ixorI .u64 a1 m, b1, c1, d1, wI .i64 (i + 8)))))
def R12_Hash_s2 (R12_Mix : Int → Int → Int → Int → Int → Option Arr4_Int) (R12_Round : Int → Int → Int → Int → Option (Int × Int × Int × Int)) (R12_word : (List UInt8) → Option Int) (s : List UInt8) (t : Int) (a : Int) (b : Int) (c : Int) (d : Int) (i : Int) : Option (Sum (Int × Int × Int × Int × Int) Int) :=
  cond (decide (i ≤ t))
    (
    let t1 := if (s.length : Int) < (wI .i64 (i + 8)) then (s.length : Int) else wI .i64 (i + 8)
    oreq (decide ((0 : Int) ≤ t1 ∧ t1 ≤ (s.length : Int) ∧ (0 : Int) ≤ i ∧ i ≤ (t1.toNat : Int))) <|
    let t2 := (s.drop i.toNat).take (t1.toNat - i.toNat)
    (R12_word t2).bind fun w =>
    cond (i == t)
      (
      oreq (decide ((0 : Int) ≤ i ∧ i ≤ (s.length : Int))) <|
      let t3 := (s.drop i.toNat).take (s.length - i.toNat)
      (R12_word t3).bind fun w1 =>
      let t4 := wI .u64 ((wI .u64 ((s.length : Int).tmod 256)) * 2 ^ 56)
      iter (fun st => R12_Hash_s1 R12_Round s t i st.1 st.2.1 st.2.2.1 st.2.2.2.1 st.2.2.2.2.1 st.2.2.2.2.2) FUEL (a, b, c, ixorI .u64 d (wI .u64 (w1 + t4)), wI .u64 (w1 + t4), 0))
      (
      iter (fun st => R12_Hash_s1 R12_Round s t i st.1 st.2.1 st.2.2.1 st.2.2.2.1 st.2.2.2.2.1 st.2.2.2.2.2) FUEL (a, b, c, ixorI .u64 d w, w, 0)))
    (
    (R12_Mix a b (ixorI .u64 c 255) d 4).bind fun m1 =>
    let t5 := ixorI .u64 (ixorI .u64 m1.e0 m1.e1) m1.e2
    some (.inr (ixorI .u64 t5 m1.e3)))
def R12_HashF (R12_Mix : Int → Int → Int → Int → Int → Option Arr4_Int) (R12_Round : Int → Int → Int → Int → Option (Int × Int × Int × Int)) (R12_word : (List UInt8) → Option Int) (k : api_Key) (s : List UInt8) : Option Int :=
  let t := wI .i64 ((wI .i64 ((s.length : Int).tdiv 8)) * 8)
  iter (fun st => R12_Hash_s2 R12_Mix R12_Round R12_word s t st.1 st.2.1 st.2.2.1 st.2.2.2.1 st.2.2.2.2) FUEL (ixorI .u64 8317987319222330741 k.A, ixorI .u64 7237128888997146477 k.B, ixorI .u64 7816392313619706465 k.A, ixorI .u64 8387220255154660723 k.B, 0)
def rx95 (x : Int) : SRes := ⟨.int .u64 x, [], []⟩
def r95 (g : api_Key → (List UInt8) → Option Int) : Dec := dV uvapi_Key fun (y0 : api_Key) => dV asS fun (y1 : List UInt8) => dEnd (ofG (g y0 y1) rx95)
theorem r95_c {g : api_Key → (List UInt8) → Option Int} {y0 : api_Key} {y1 : List UInt8} {x : Int} (hx : g y0 y1 = some x) : r95 g [.agg ⟨[.int .u64 y0.A, .int .u64 y0.B]⟩, .string ⟨⟨y1⟩⟩] [] = some (rx95 x) := (dV_eq (uvapi_Key_c _)).trans ((dV_eq (asS_c)).trans (ofG_eq hx))
def s95 (g : api_Key → (List UInt8) → Option Int) : Summ := ⟨[.v, .v], r95 g⟩
theorem r95_eq {g : api_Key → (List UInt8) → Option Int} {y0 : api_Key} {y1 : List UInt8} {x : Int} (hx : g y0 y1 = some x) : (s95 g).run [.agg ⟨[.int .u64 y0.A, .int .u64 y0.B]⟩, .string ⟨⟨y1⟩⟩] [] = some (rx95 x) := r95_c hx
abbrev sums95 (R12_Mix : Int → Int → Int → Int → Int → Option Arr4_Int) (R12_Round : Int → Int → Int → Int → Option (Int × Int × Int × Int)) (R12_word : (List UInt8) → Option Int) : List (Nat × Summ) := [(137, s137 R12_Mix), (136, s136 R12_Round), (135, s135 R12_word)]
def head95_1 (s : List UInt8) (t : Int) (i : Int) (a1 : Int) (b1 : Int) (c1 : Int) (d1 : Int) (m : Int) (n : Int) : VM :=
  ⟨⟨95, 95, [(1, .string ⟨⟨s⟩⟩), (5, .int .u64 a1), (6, .int .u64 b1), (7, .int .u64 c1), (8, .int .u64 d1), (9, .int .i64 t), (10, .int .i64 i), (11, .int .u64 m), (12, .int .i64 n)], [.code k95_22, .inLoop k95_22, .inBlock 2, .code k95_26, .inBlock 1, .code k95_32, .inLoop k95_34, .inBlock 0, .code k95_43], [], false, none⟩, [], [], 15⟩
def head95_2 (s : List UInt8) (t : Int) (a : Int) (b : Int) (c : Int) (d : Int) (i : Int) : VM :=
  ⟨⟨95, 95, [(1, .string ⟨⟨s⟩⟩), (5, .int .u64 a), (6, .int .u64 b), (7, .int .u64 c), (8, .int .u64 d), (9, .int .i64 t), (10, .int .i64 i)], [.code k95_34, .inLoop k95_34, .inBlock 0, .code k95_43], [], false, none⟩, [], [], 15⟩
theorem loop95_1 (R12_Mix : Int → Int → Int → Int → Int → Option Arr4_Int) (R12_Round : Int → Int → Int → Int → Option (Int × Int × Int × Int)) (R12_word : (List UInt8) → Option Int) (hS : SumsOK Try.prog (aget (sums95 R12_Mix R12_Round R12_word))) (s : List UInt8) (t : Int) (i : Int) (res : Int) : ∀ fuel (st : Int × Int × Int × Int × Int × Int) (o : Sum (Int × Int × Int × Int × Int) Int), iter (fun st => R12_Hash_s1 R12_Round s t i st.1 st.2.1 st.2.2.1 st.2.2.2.1 st.2.2.2.2.1 st.2.2.2.2.2) fuel st = some o → (Sum.elim (fun s0 => Leads Try.prog 95 0 (head95_2 s t s0.1 s0.2.1 s0.2.2.1 s0.2.2.2.1 s0.2.2.2.2) (fun v H _ => Res 0 (rx95 res) v H)) (fun r0 => r0 = res) o) →
    Leads Try.prog 95 0 (head95_1 s t i st.1 st.2.1 st.2.2.1 st.2.2.2.1 st.2.2.2.2.1 st.2.2.2.2.2) (fun v H _ => Res 0 (rx95 res) v H) := by
  intro fuel st o h hc
  refine iter_leads (head := fun st => head95_1 s t i st.1 st.2.1 st.2.2.1 st.2.2.2.1 st.2.2.2.2.1 st.2.2.2.2.2) (C := fun o => (Sum.elim (fun s0 => Leads Try.prog 95 0 (head95_2 s t s0.1 s0.2.1 s0.2.2.1 s0.2.2.2.1 s0.2.2.2.2) (fun v H _ => Res 0 (rx95 res) v H)) (fun r0 => r0 = res) o)) ?_ fuel st o h hc
  clear h hc o st fuel
  intro st o h hc
  obtain ⟨a1, b1, c1, d1, m, n⟩ := st
  replace h : R12_Hash_s1 R12_Round s t i a1 b1 c1 d1 m n = some o := h
  show Leads Try.prog 95 0 (head95_1 s t i a1 b1 c1 d1 m n) (fun v H _ => Res 0 (rx95 res) v H)
  unfold R12_Hash_s1 at h
  refine ev_ok tab_ok hS true 3000 ?_
  conv => whnf
  refine br.h2 h ?_ ?_ ?_
  · rfl
  · clear h; intro hb h; conv => whnf
    cases h; simp only [Sum.elim_inr, Sum.elim_inl, head95_2] at hc
    exact lrA0 hc [] rfl
  clear h; intro hb h; conv => whnf
  replace h := obind.elim h; obtain ⟨xr, hy, h⟩ := h
  refine sumK.q rfl rfl (r136_eq hy) rfl rfl rfl ?_
  conv => whnf
  cases h; simp only [Sum.elim_inl, head95_1] at hc
  exact lrA0 hc [] rfl
theorem loop95_2 (R12_Mix : Int → Int → Int → Int → Int → Option Arr4_Int) (R12_Round : Int → Int → Int → Int → Option (Int × Int × Int × Int)) (R12_word : (List UInt8) → Option Int) (hS : SumsOK Try.prog (aget (sums95 R12_Mix R12_Round R12_word))) (s : List UInt8) (t : Int) (res : Int) : ∀ fuel (st : Int × Int × Int × Int × Int) (o : Int), iter (fun st => R12_Hash_s2 R12_Mix R12_Round R12_word s t st.1 st.2.1 st.2.2.1 st.2.2.2.1 st.2.2.2.2) fuel st = some o → (o = res) →
    Leads Try.prog 95 0 (head95_2 s t st.1 st.2.1 st.2.2.1 st.2.2.2.1 st.2.2.2.2) (fun v H _ => Res 0 (rx95 res) v H) := by
  intro fuel st o h hc
  refine iter_leads (head := fun st => head95_2 s t st.1 st.2.1 st.2.2.1 st.2.2.2.1 st.2.2.2.2) (C := fun o => (o = res)) ?_ fuel st o h hc
  clear h hc o st fuel
  intro st o h hc
  obtain ⟨a, b, c, d, i⟩ := st
  replace h : R12_Hash_s2 R12_Mix R12_Round R12_word s t a b c d i = some o := h
  show Leads Try.prog 95 0 (head95_2 s t a b c d i) (fun v H _ => Res 0 (rx95 res) v H)
  unfold R12_Hash_s2 at h
  refine ev_ok tab_ok hS true 3000 ?_
  conv => whnf
  refine br.h2 h ?_ ?_ ?_
  · rfl
  · clear h; intro hb h; conv => whnf
    replace h := obind.elim h; obtain ⟨m1, hy, h⟩ := h
    refine sumK.q rfl rfl (r137_eq hy) rfl rfl rfl ?_
    conv => whnf
    let t5 : Int := ixorI .u64 (ixorI .u64 m1.e0 m1.e1) m1.e2
    all_goals (cases h; cases hc; exact Res.z rfl rfl rfl)
  clear h; intro hb h; conv => whnf
  let t1 : Int := if (s.length : Int) < (wI .i64 (i + 8)) then (s.length : Int) else wI .i64 (i + 8)
  replace h := oreq.elim h; obtain ⟨hb, h⟩ := h
  first | (refine req.intro hb ?_; conv => whnf) | skip
  let t2 : List UInt8 := (s.drop i.toNat).take (t1.toNat - i.toNat)
  replace h := obind.elim h; obtain ⟨w, hy, h⟩ := h
  refine sumK.q rfl rfl (r135_eq hy) rfl rfl rfl ?_
  conv => whnf
  refine br.h2 h ?_ ?_ ?_
  · rfl
  · clear h; intro hb h; conv => whnf
    have hl := loop95_1 R12_Mix R12_Round R12_word hS _ _ _ res _ _ _ h hc; simp only [head95_1] at hl
    exact lrA0 hl [] rfl
  clear h; intro hb h; conv => whnf
  replace h := oreq.elim h; obtain ⟨hb, h⟩ := h
  first | (refine req.intro hb ?_; conv => whnf) | skip
  let t3 : List UInt8 := (s.drop i.toNat).take (s.length - i.toNat)
  replace h := obind.elim h; obtain ⟨w1, hy, h⟩ := h
  refine sumK.q rfl rfl (r135_eq hy) rfl rfl rfl ?_
  conv => whnf
  let t4 : Int := wI .u64 ((wI .u64 ((s.length : Int).tmod 256)) * 2 ^ 56)
  have hl := loop95_1 R12_Mix R12_Round R12_word hS _ _ _ res _ _ _ h hc; simp only [head95_1] at hl
  exact lrA0 hl [] rfl
theorem leads95 (R12_Mix : Int → Int → Int → Int → Int → Option Arr4_Int) (R12_Round : Int → Int → Int → Int → Option (Int × Int × Int × Int)) (R12_word : (List UInt8) → Option Int) (hS : SumsOK Try.prog (aget (sums95 R12_Mix R12_Round R12_word))) (k : api_Key) (s : List UInt8) (res : Int) (h : R12_HashF R12_Mix R12_Round R12_word k s = some res) :
    Leads Try.prog 95 0 ⟨⟨95, 95, [(0, .agg ⟨[.int .u64 k.A, .int .u64 k.B]⟩), (1, .string ⟨⟨s⟩⟩)], [.code k95_48], [], false, none⟩, [], [], 0⟩ (fun v H _ => Res 0 (rx95 res) v H) := by
  unfold R12_HashF at h
  refine ev_ok tab_ok hS true 3000 ?_
  conv => whnf
  let t : Int := wI .i64 ((wI .i64 ((s.length : Int).tdiv 8)) * 8)
  have hl := loop95_2 R12_Mix R12_Round R12_word hS _ _ res _ _ _ h rfl; simp only [head95_2] at hl
  exact lrA0 hl [] rfl
theorem ok95 (R12_Mix : Int → Int → Int → Int → Int → Option Arr4_Int) (R12_Round : Int → Int → Int → Int → Option (Int × Int × Int × Int)) (R12_word : (List UInt8) → Option Int) (hS : SumsOK Try.prog (aget (sums95 R12_Mix R12_Round R12_word))) : SumOK Try.prog 95 (s95 (R12_HashF R12_Mix R12_Round R12_word)) := by
  refine SumOK.of_leads tab_ok (fun ar os r ha hr => ?_) ⟨Try.f95, rfl, by decide, rfl⟩
  replace hr : r95 (R12_HashF R12_Mix R12_Round R12_word) ar (conts os) = some r := hr
  unfold r95 at hr
  generalize hc : conts os = C at hr
  replace hr := dV.elim hr; obtain ⟨v0, l1, y0, rfl, e0, hr⟩ := hr; obtain rfl := uvapi_Key_eq _ _ e0
  replace hr := dV.elim hr; obtain ⟨v1, l2, y1, rfl, e1, hr⟩ := hr; obtain rfl := asS_eq _ _ e1
  replace hr := dFin hr; obtain ⟨rfl, rfl, x, h, rfl⟩ := hr
  obtain rfl := kinds_nil hc
  exact ⟨_, rfl, leads95 R12_Mix R12_Round R12_word hS _ _ x h⟩
def R12_Hash : api_Key → (List UInt8) → Option Int := R12_HashF R12_Mix R12_Round R12_word
theorem lift95 : SumOK Try.prog 95 (s95 R12_Hash) := ok95 R12_Mix R12_Round R12_word (SumsOK.of_tab ⟨lift137, lift136, lift135, trivial⟩)
end Go.Vm.Code
namespace Go.Vm.Code
open Go Go.Vm
theorem iorU64_hi (k : Nat) {a b : Int} (h0 : 0 ≤ a) (h1 : a * 2 ^ k < 18446744073709551616) (hb0 : 0 ≤ b) (hb : b < 2 ^ k) (hb1 : b < 18446744073709551616) : iorI .u64 b (a * 2 ^ k) = a * 2 ^ k + b := by
  obtain ⟨n, rfl⟩ := Int.eq_ofNat_of_zero_le h0
  obtain ⟨m, rfl⟩ := Int.eq_ofNat_of_zero_le hb0
  have e : ((n : Int) * 2 ^ k) = ((n * 2 ^ k : Nat) : Int) := by push_cast; rfl
  rw [e] at h1 ⊢
  rw [iorU64 (by omega) (by omega), Nat.or_comm, or_low (by exact_mod_cast hb)]; push_cast; rfl
def wrd : List UInt8 → Nat
  | [] => 0
  | b :: l => b.toNat + 256 * wrd l
theorem wrd_lt : ∀ l : List UInt8, wrd l < 256 ^ l.length
  | [] => by simp [wrd]
  | b :: l => by
    have := wrd_lt l
    have hb := b.toNat_lt
    rw [wrd, List.length_cons, Nat.pow_succ]; omega
theorem wrd_snoc : ∀ (l : List UInt8) (b : UInt8), wrd (l ++ [b]) = wrd l + 256 ^ l.length * b.toNat
  | [], b => by simp [wrd]
  | c :: l, b => by
    have := wrd_snoc l b
    rw [List.cons_append, wrd, this, wrd, List.length_cons, Nat.pow_succ, Nat.mul_add, Nat.mul_comm (256 ^ l.length) 256, Nat.mul_assoc]; omega
theorem pow_le8 {j : Nat} (h : j ≤ 8) : 256 ^ j ≤ 18446744073709551616 := by
  have : (256 : Nat) ^ j ≤ 256 ^ 8 := Nat.pow_le_pow_right (by decide) h
  simpa using this
theorem word_eq12 {s : List UInt8} (hs : s.length ≤ 8) : R12_word s = some (wrd s : Int) := by
  unfold R12_word R12_wordF
  rw [wI64 (by omega) (by omega)]
  have key := iter_eq (step := fun (st : Int × Int) => R12_word_s1 s st.1 st.2) (fun st => ((st.1.toNat * 256 ^ (st.2 + 1).toNat + wrd (s.take (st.2 + 1).toNat) : Nat) : Int)) (fun st => 0 ≤ st.1 ∧ -1 ≤ st.2 ∧ st.2 < s.length ∧ st.1.toNat < 256 ^ (s.length - (st.2 + 1).toNat)) (fun st => (st.2 + 1).toNat) ?_ FUEL (0, (s.length : Int) - 1) ⟨by simp, by simp only; omega, by simp only; omega, by simp⟩ (by rw [FUEL_eq]; simp only; omega)
  · rw [key]
    have e : ((s.length : Int) - 1 + 1).toNat = s.length := by omega
    simp only [e]; simp
  rintro ⟨n, i⟩ ⟨g1, g2, g3, g4⟩
  simp only at g1 g2 g3 g4 ⊢
  obtain ⟨v, rfl⟩ := Int.eq_ofNat_of_zero_le g1
  simp only [Int.toNat_natCast] at g4 ⊢
  unfold R12_word_s1
  by_cases hi : i ≥ 0
  · obtain ⟨j, rfl⟩ := Int.eq_ofNat_of_zero_le hi
    have e1 : ((j : Int) + 1).toNat = j + 1 := by omega
    have e2 : ((j : Int) - 1 + 1).toNat = j := by omega
    rw [e1] at g4 ⊢
    have hj : j < s.length := by omega
    have hb := s[j].toNat_lt
    have hv : v * 256 + s[j].toNat < 256 ^ (s.length - j) := by
      rw [show s.length - j = (s.length - (j + 1)) + 1 by omega, Nat.pow_succ]; omega
    have hv2 := pow_le8 (j := s.length - j) (by omega)
    refine .inr ⟨(((v * 256 + s[j].toNat : Nat) : Int), (j : Int) - 1), ?_, ⟨by simp only; omega, by simp only; omega, by simp only; omega, ?_⟩, by simp only; omega, ?_⟩
    · rw [cond_p hi, oreq_p hi, Int.toNat_natCast, List.getElem?_eq_getElem hj, Option.bind_some, wU64 (n := (v : Int) * 2 ^ 8) (by omega) (by omega), wU64 (n := (s[j].toNat : Int)) (by omega) (by omega), wU64 (by omega) (by omega), wI64 (by omega) (by omega)]
      simp only []
      congr 3 <;> omega
    · simp only [e2, Int.toNat_natCast]; exact hv
    · simp only [e2, Int.toNat_natCast]
      rw [List.take_succ_eq_append_getElem hj, wrd_snoc, List.length_take, Nat.min_eq_left (by omega), Nat.pow_succ, Nat.add_mul, Nat.mul_assoc, Nat.mul_comm (256 ^ j) 256, Nat.mul_comm (256 ^ j) s[j].toNat]
      congr 1
      omega
  · refine .inl ?_
    rw [cond_n hi]
    have e1 : (i + 1).toNat = 0 := by omega
    rw [e1]; simp [wrd]
def finQ (q : Arr4_Int) : Int :=
  let m := rnds 4 ⟨q.e0, q.e1, ixorI .u64 q.e2 255, q.e3⟩
  ixorI .u64 (ixorI .u64 (ixorI .u64 m.e0 m.e1) m.e2) m.e3
theorem part_eq (T : Arr4_Int → Int → Arr4_Int) : ∀ (l : List UInt8) (h : sip_Hasher) (j v : Nat), h.count.toNat % 8 = j → 0 ≤ h.count → h.last = (v : Int) → v < 256 ^ j → j + l.length < 8 → l.foldl (wrT T) h = ⟨h.made, h.s, ((v + 256 ^ j * wrd l : Nat) : Int), h.count + l.length⟩
  | [], h, j, v, hj, h0, hv, hlt, hl => by
    obtain ⟨m, s, la, c⟩ := h
    simp only at hv; subst hv
    simp [wrd]
  | b :: l, h, j, v, hj, h0, hv, hlt, hl => by
    rw [List.length_cons] at hl
    have hb := b.toNat_lt
    have hp : (256 : Nat) ^ j = 2 ^ (8 * j) := by rw [Nat.pow_mul]
    have hp2 := pow_le8 (j := j + 1) (by omega)
    rw [Nat.pow_succ] at hp2
    have hb2 : b.toNat * 256 ^ j ≤ 255 * 256 ^ j := Nat.mul_le_mul_right _ (by omega)
    have hpI : (2 : Int) ^ (8 * j) = ((256 ^ j : Nat) : Int) := by rw [hp]; push_cast; rfl
    have e1 : wI .u64 ((b.toNat : Int) * 2 ^ (8 * j)) = (b.toNat : Int) * 2 ^ (8 * j) := by
      rw [hpI, ← Int.natCast_mul]; exact wU64 (by omega) (by omega)
    have e2 : iorI .u64 (v : Int) ((b.toNat : Int) * 2 ^ (8 * j)) = ((v + 256 ^ j * b.toNat : Nat) : Int) := by
      rw [iorU64_hi (8 * j) (by omega) (by rw [hpI, ← Int.natCast_mul]; omega) (by omega) (by rw [hpI]; omega) (by omega), hpI, ← Int.natCast_mul, Nat.mul_comm]; omega
    have hw : wrT T h b = ⟨h.made, h.s, ((v + 256 ^ j * b.toNat : Nat) : Int), h.count + 1⟩ := by
      unfold wrT
      rw [hj, hv, if_neg (by omega), e1, e2]
    rw [List.foldl_cons, hw, part_eq T l _ (j + 1) (v + 256 ^ j * b.toNat) (by simp only; omega) (by simp only; omega) rfl (by rw [Nat.pow_succ, Nat.mul_comm (256 ^ j) b.toNat]; omega) (by omega)]
    simp only [wrd, Nat.pow_succ, List.length_cons]
    congr 1
    · rw [Nat.mul_add, ← Nat.mul_assoc, Nat.add_assoc]
    · omega
theorem full_eq (T : Arr4_Int → Int → Arr4_Int) {l : List UInt8} {h : sip_Hasher} (hl : l.length = 8) (hc : h.count.toNat % 8 = 0) (h0 : 0 ≤ h.count) (hv : h.last = 0) : l.foldl (wrT T) h = ⟨h.made, T h.s (wrd l : Int), 0, h.count + 8⟩ := by
  obtain ⟨l7, b, rfl⟩ : ∃ l7 b, l = l7 ++ [b] := ⟨l.dropLast, l.getLast (by intro e; rw [e] at hl; simp at hl), (List.dropLast_concat_getLast _).symm⟩
  have h7 : l7.length = 7 := by simp at hl; omega
  have hb := b.toNat_lt
  have hw := wrd_lt l7
  rw [h7] at hw
  rw [List.foldl_append, part_eq T l7 h 0 0 hc h0 (by rw [hv]; rfl) (by simp) (by omega), h7, wrd_snoc, h7]
  simp only [List.foldl_cons, List.foldl_nil, wrT, Nat.pow_zero, Nat.one_mul, Nat.zero_add]
  have e0 : (h.count + ((7 : Nat) : Int)).toNat % 8 = 7 := by omega
  have e00 : ((h.count + ((7 : Nat) : Int)).toNat + 1) % 8 = 0 := by omega
  rw [e0, if_pos e00]
  have e1 : wI .u64 ((b.toNat : Int) * 2 ^ (8 * 7)) = (b.toNat : Int) * 2 ^ (8 * 7) := wU64 (by omega) (by omega)
  have e2 : iorI .u64 (wrd l7 : Int) ((b.toNat : Int) * 2 ^ (8 * 7)) = ((wrd l7 + 256 ^ 7 * b.toNat : Nat) : Int) := by
    rw [iorU64_hi (8 * 7) (by omega) (by omega) (by omega) (by omega) (by omega)]; omega
  rw [e1, e2]
  congr 1
  omega
def hashR (T : Arr4_Int → Int → Arr4_Int) (fin : Arr4_Int → Int) (n : Nat) (q : Arr4_Int) (l : List UInt8) : Int :=
  if h : 8 ≤ l.length then hashR T fin n (T q (wrd (l.take 8) : Int)) (l.drop 8) else fin (T q ((wrd l + n % 256 * 2 ^ 56 : Nat) : Int))
termination_by l.length
decreasing_by simp; omega
theorem fold_hashR (T : Arr4_Int → Int → Arr4_Int) (fin : Arr4_Int → Int) : ∀ (k : Nat) (l : List UInt8) (h : sip_Hasher), l.length ≤ k → h.count.toNat % 8 = 0 → 0 ≤ h.count → h.last = 0 → ∀ n : Nat, (n : Int) = h.count + l.length →
    fin (T (l.foldl (wrT T) h).s (iorI .u64 (l.foldl (wrT T) h).last (wI .u64 ((wI .u64 (l.foldl (wrT T) h).count) * 2 ^ 56)))) = hashR T fin n h.s l := by
  intro k
  induction k with
  | zero =>
    intro l h hl hc h0 hv n hn
    obtain rfl : l = [] := List.length_eq_zero_iff.1 (by omega)
    rw [hashR, dif_neg (by simp)]
    simp only [List.foldl_nil, hv, wrd]
    congr 2
    simp at hn
    rw [← hn]
    have e1 : wI .u64 ((wI .u64 (n : Int)) * 2 ^ 56) = ((n % 256 : Nat) : Int) * 2 ^ 56 := by rw [wU64m, wU64m]; omega
    rw [e1, iorU64_hi 56 (by omega) (by omega) (by omega) (by omega) (by omega)]; omega
  | succ k ih =>
    intro l h hl hc h0 hv n hn
    by_cases h8 : 8 ≤ l.length
    · rw [hashR, dif_pos h8]
      have hs : l.foldl (wrT T) h = (l.drop 8).foldl (wrT T) ⟨h.made, T h.s (wrd (l.take 8) : Int), 0, h.count + 8⟩ := by
        rw [← full_eq T (l := l.take 8) (by simp; omega) hc h0 hv, ← List.foldl_append, List.take_append_drop]
      rw [hs]
      exact ih (l.drop 8) ⟨h.made, T h.s (wrd (l.take 8) : Int), 0, h.count + 8⟩ (by simp; omega) (by simp only; omega) (by simp only; omega) rfl n (by simp; omega)
    · rw [hashR, dif_neg h8, part_eq T l h 0 0 hc h0 (by rw [hv]; rfl) (by simp) (by omega)]
      simp only [Nat.zero_add, Nat.pow_zero, Nat.one_mul]
      congr 2
      rw [← hn]
      have hw : wrd l < 256 ^ 7 := Nat.lt_of_lt_of_le (wrd_lt l) (Nat.pow_le_pow_right (by decide) (by omega))
      have e1 : wI .u64 ((wI .u64 (n : Int)) * 2 ^ 56) = ((n % 256 : Nat) : Int) * 2 ^ 56 := by rw [wU64m, wU64m]; omega
      rw [e1, iorU64_hi 56 (by omega) (by omega) (by omega) (by omega) (by omega)]; omega
theorem inner12G (r : Arr4_Int → Arr4_Int) (s : List UInt8) (t i a b c d m : Int) (hi : 0 ≤ i ∧ i < 2 ^ 62) : iter (fun (st : Int × Int × Int × Int × Int × Int) => R12_Hash_s1 (fun a b c d => some ((r ⟨a, b, c, d⟩).e0, (r ⟨a, b, c, d⟩).e1, (r ⟨a, b, c, d⟩).e2, (r ⟨a, b, c, d⟩).e3)) s t i st.1 st.2.1 st.2.2.1 st.2.2.2.1 st.2.2.2.2.1 st.2.2.2.2.2) FUEL (a, b, c, d, m, 0) =
    some (.inl (ixorI .u64 (r (r ⟨a, b, c, d⟩)).e0 m, (r (r ⟨a, b, c, d⟩)).e1, (r (r ⟨a, b, c, d⟩)).e2, (r (r ⟨a, b, c, d⟩)).e3, i + 8)) := by
  have e8 : wI .i64 (i + 8) = i + 8 := wI64 (by omega) (by omega)
  show iter _ (18446744073709551613 + 1 + 1 + 1) _ = _
  rw [iter]
  have s1 : ∀ (a b c d n : Int), n < 2 → 0 ≤ n → R12_Hash_s1 (fun a b c d => some ((r ⟨a, b, c, d⟩).e0, (r ⟨a, b, c, d⟩).e1, (r ⟨a, b, c, d⟩).e2, (r ⟨a, b, c, d⟩).e3)) s t i a b c d m n = some (.inl ((r ⟨a, b, c, d⟩).e0, (r ⟨a, b, c, d⟩).e1, (r ⟨a, b, c, d⟩).e2, (r ⟨a, b, c, d⟩).e3, m, n + 1)) := by
    intro a b c d n h1 h0
    unfold R12_Hash_s1
    rw [cond_p h1, Option.bind_some, wI64 (n := n + 1) (by omega) (by omega)]
  have s2 : ∀ (a b c d : Int), R12_Hash_s1 (fun a b c d => some ((r ⟨a, b, c, d⟩).e0, (r ⟨a, b, c, d⟩).e1, (r ⟨a, b, c, d⟩).e2, (r ⟨a, b, c, d⟩).e3)) s t i a b c d m 2 = some (.inr (.inl (ixorI .u64 a m, b, c, d, i + 8))) := by
    intro a b c d
    unfold R12_Hash_s1
    rw [cond_n (by decide), e8]
  rw [s1 a b c d 0 (by decide) (by decide)]
  simp only []
  rw [iter]
  simp only [show (0 : Int) + 1 = 1 from rfl]
  rw [s1 _ _ _ _ 1 (by decide) (by decide)]
  simp only []
  rw [iter]
  simp only [show (1 : Int) + 1 = 2 from rfl]
  rw [s2]
theorem inner12 (s : List UInt8) (t i a b c d m : Int) (hi : 0 ≤ i ∧ i < 2 ^ 62) : iter (fun (st : Int × Int × Int × Int × Int × Int) => R12_Hash_s1 R12_Round s t i st.1 st.2.1 st.2.2.1 st.2.2.2.1 st.2.2.2.2.1 st.2.2.2.2.2) FUEL (a, b, c, ixorI .u64 d m, m, 0) =
    some (.inl ((tak ⟨a, b, c, d⟩ m).e0, (tak ⟨a, b, c, d⟩ m).e1, (tak ⟨a, b, c, d⟩ m).e2, (tak ⟨a, b, c, d⟩ m).e3, i + 8)) := by
  have e : R12_Round = fun a b c d => some ((rnd ⟨a, b, c, d⟩).e0, (rnd ⟨a, b, c, d⟩).e1, (rnd ⟨a, b, c, d⟩).e2, (rnd ⟨a, b, c, d⟩).e3) := by
    funext a b c d; exact Round_eq a b c d
  rw [e, inner12G rnd s t i a b c (ixorI .u64 d m) m hi]
  simp only [tak, rnds]
theorem R12_Hash_eq {k : api_Key} {s : List UInt8} (h : s.length < 2 ^ 60) : R12_Hash k s = some (hashR tak finQ s.length (newV k).s s) := by
  unfold R12_Hash R12_HashF
  have ew : wI .i64 ((wI .i64 ((s.length : Int).tdiv 8)) * 8) = ((s.length / 8 * 8 : Nat) : Int) := by
    rw [Int.tdiv_eq_ediv_of_nonneg (by omega), wI64 (n := (s.length : Int) / 8) (by omega) (by omega), wI64 (by omega) (by omega)]; omega
  rw [ew]
  simp only []
  generalize hw : s.length / 8 * 8 = w
  have hw1 : w ≤ s.length ∧ s.length < w + 8 ∧ w % 8 = 0 := by omega
  have key := iter_eq (step := fun (st : Int × Int × Int × Int × Int) => R12_Hash_s2 R12_Mix R12_Round R12_word s (w : Int) st.1 st.2.1 st.2.2.1 st.2.2.2.1 st.2.2.2.2)
    (fun st => if st.2.2.2.2 ≤ w then hashR tak finQ s.length ⟨st.1, st.2.1, st.2.2.1, st.2.2.2.1⟩ (s.drop st.2.2.2.2.toNat) else finQ ⟨st.1, st.2.1, st.2.2.1, st.2.2.2.1⟩)
    (fun st => ∃ i : Nat, st.2.2.2.2 = i ∧ i % 8 = 0 ∧ i ≤ w + 8) (fun st => (w + 8 - st.2.2.2.2).toNat) ?_ FUEL ((newV k).s.e0, (newV k).s.e1, (newV k).s.e2, (newV k).s.e3, 0) ⟨0, rfl, by omega, by omega⟩ (by rw [FUEL_eq]; simp only; omega)
  · refine Eq.trans key ?_
    simp only [Int.toNat_zero, List.drop_zero]
    rw [if_pos (by omega)]
  rintro ⟨a, b, c, d, p⟩ ⟨i, g1, g2, g3⟩
  simp only at g1 ⊢
  subst g1
  unfold R12_Hash_s2
  by_cases hi : i ≤ w
  · rw [cond_p (by omega), if_pos (show (i : Int) ≤ w by omega), Int.toNat_natCast]
    have e8 : wI .i64 ((i : Int) + 8) = (i : Int) + 8 := wI64 (by omega) (by omega)
    by_cases hl : i = w
    · subst hl
      have e1 : (if (s.length : Int) < (i : Int) + 8 then (s.length : Int) else (i : Int) + 8) = s.length := by rw [if_pos (by omega)]
      have hlen : (s.drop i).length ≤ 7 := by simp; omega
      have et : (s.drop i).take (s.length - i) = s.drop i := List.take_of_length_le (by simp)
      have hv : wrd (s.drop i) < 256 ^ 7 := Nat.lt_of_lt_of_le (wrd_lt _) (Nat.pow_le_pow_right (by decide) hlen)
      have em : wI .u64 ((wrd (s.drop i) : Int) + wI .u64 ((wI .u64 ((s.length : Int).tmod 256)) * 2 ^ 56)) = ((wrd (s.drop i) + s.length % 256 * 2 ^ 56 : Nat) : Int) := by
        rw [Int.tmod_eq_emod_of_nonneg (by omega), wU64 (n := (s.length : Int) % 256) (by omega) (by omega), wU64 (n := (s.length : Int) % 256 * 2 ^ 56) (by omega) (by omega), wU64 (by omega) (by omega)]; omega
      refine .inr ⟨((tak ⟨a, b, c, d⟩ ((wrd (s.drop i) + s.length % 256 * 2 ^ 56 : Nat) : Int)).e0, (tak ⟨a, b, c, d⟩ ((wrd (s.drop i) + s.length % 256 * 2 ^ 56 : Nat) : Int)).e1, (tak ⟨a, b, c, d⟩ ((wrd (s.drop i) + s.length % 256 * 2 ^ 56 : Nat) : Int)).e2, (tak ⟨a, b, c, d⟩ ((wrd (s.drop i) + s.length % 256 * 2 ^ 56 : Nat) : Int)).e3, (i : Int) + 8), ?_, ⟨i + 8, by simp only; omega, by omega, by omega⟩, by simp only; omega, ?_⟩
      · simp only [e8, e1]
        rw [oreq_p (by omega), Int.toNat_natCast, et, word_eq12 (by omega), Option.bind_some, beq_self_eq_true, cond_true, oreq_p (by omega), Option.bind_some, em]
        exact inner12 s (i : Int) (i : Int) a b c d _ (by omega)
      · simp only []
        rw [if_neg (show ¬ (i : Int) + 8 ≤ i by omega), hashR, dif_neg (by omega)]
    · have h8 : i + 8 ≤ s.length := by omega
      have e1 : (if (s.length : Int) < (i : Int) + 8 then (s.length : Int) else (i : Int) + 8) = (i : Int) + 8 := by
        split
        · omega
        · rfl
      have e2 : ((i : Int) + 8).toNat - i = 8 := by omega
      have e3 : ((i : Int) == (w : Int)) = false := by rw [beq_eq_false_iff_ne]; omega
      refine .inr ⟨((tak ⟨a, b, c, d⟩ (wrd ((s.drop i).take 8) : Int)).e0, (tak ⟨a, b, c, d⟩ (wrd ((s.drop i).take 8) : Int)).e1, (tak ⟨a, b, c, d⟩ (wrd ((s.drop i).take 8) : Int)).e2, (tak ⟨a, b, c, d⟩ (wrd ((s.drop i).take 8) : Int)).e3, (i : Int) + 8), ?_, ⟨i + 8, by simp only; omega, by omega, by omega⟩, by simp only; omega, ?_⟩
      · simp only [e8, e1]
        rw [oreq_p (by omega), e2, word_eq12 (by rw [List.length_take]; omega), Option.bind_some, e3, cond_false]
        exact inner12 s (w : Int) (i : Int) a b c d _ (by omega)
      · simp only []
        rw [if_pos (show (i : Int) + 8 ≤ w by omega), show ((i : Int) + 8).toNat = i + 8 by omega]
        conv => rhs; rw [hashR, dif_pos (by simp; omega), List.drop_drop]
  · refine .inl ?_
    rw [cond_n (by omega), if_neg (show ¬ (i : Int) ≤ w by omega), Mix_eq, Option.bind_some, show cnt 4 = 4 from rfl]
    rfl
end Go.Vm.Code
namespace Go.Vm.Code
open Go Go.Vm Go.Proofs
set_option maxRecDepth 100000
set_option maxHeartbeats 4000000
set_option linter.unusedVariables false
def sip_HashF (sip_Hasher_Sum : sip_Hasher → Option (Int × sip_Hasher)) (sip_Hasher_Write : sip_Hasher → (List UInt8) → Option sip_Hasher) (sip_New : api_Key → Option sip_Hasher) (k : api_Key) (s : List UInt8) : Option Int :=
  (sip_New k).bind fun n =>
  (sip_Hasher_Write n s).bind fun w =>
  (sip_Hasher_Sum w).bind fun s1 =>
  some (s1.1)
def rx94 (x : Int) : SRes := ⟨.int .u64 x, [], []⟩
def r94 (g : api_Key → (List UInt8) → Option Int) : Dec := dV uvapi_Key fun (y0 : api_Key) => dV asS fun (y1 : List UInt8) => dEnd (ofG (g y0 y1) rx94)
theorem r94_c {g : api_Key → (List UInt8) → Option Int} {y0 : api_Key} {y1 : List UInt8} {x : Int} (hx : g y0 y1 = some x) : r94 g [.agg ⟨[.int .u64 y0.A, .int .u64 y0.B]⟩, .string ⟨⟨y1⟩⟩] [] = some (rx94 x) := (dV_eq (uvapi_Key_c _)).trans ((dV_eq (asS_c)).trans (ofG_eq hx))
def s94 (g : api_Key → (List UInt8) → Option Int) : Summ := ⟨[.v, .v], r94 g⟩
theorem r94_eq {g : api_Key → (List UInt8) → Option Int} {y0 : api_Key} {y1 : List UInt8} {x : Int} (hx : g y0 y1 = some x) : (s94 g).run [.agg ⟨[.int .u64 y0.A, .int .u64 y0.B]⟩, .string ⟨⟨y1⟩⟩] [] = some (rx94 x) := r94_c hx
abbrev sums94 (sip_Hasher_Sum : sip_Hasher → Option (Int × sip_Hasher)) (sip_Hasher_Write : sip_Hasher → (List UInt8) → Option sip_Hasher) (sip_New : api_Key → Option sip_Hasher) : List (Nat × Summ) := [(134, s134 sip_Hasher_Sum), (133, s133 sip_Hasher_Write), (132, s132 sip_New)]
theorem leads94 (sip_Hasher_Sum : sip_Hasher → Option (Int × sip_Hasher)) (sip_Hasher_Write : sip_Hasher → (List UInt8) → Option sip_Hasher) (sip_New : api_Key → Option sip_Hasher) (hS : SumsOK Try.prog (aget (sums94 sip_Hasher_Sum sip_Hasher_Write sip_New))) (k : api_Key) (s : List UInt8) (res : Int) (h : sip_HashF sip_Hasher_Sum sip_Hasher_Write sip_New k s = some res) :
    Leads Try.prog 94 0 ⟨⟨94, 13, [(0, .agg ⟨[.int .u64 k.A, .int .u64 k.B]⟩), (1, .string ⟨⟨s⟩⟩)], [.code k94_7], [], false, none⟩, [], [], 0⟩ (fun v H _ => Res 0 (rx94 res) v H) := by
  unfold sip_HashF at h
  refine ev_ok tab_ok hS true 3000 ?_
  conv => whnf
  replace h := obind.elim h; obtain ⟨n, hy, h⟩ := h
  refine sumK.introF [1] (sumRun_of (aqs := [.agg ⟨[.int .u64 k.A, .int .u64 k.B]⟩]) (ws := []) (n := 1) (m := 0) (t' := 2) (ra_cons rfl rfl ra_nil) rfl (by rfl) (r132_eq hy) rfl rfl rfl rfl wb_nil (an_cons (rfl) an_nil) rfl) ?_
  conv => whnf
  replace h := obind.elim h; obtain ⟨w, hy, h⟩ := h
  refine sumK.introF [1] (sumRun_of (aqs := [.pointer (some ⟨0, 0, none⟩), .string ⟨⟨s⟩⟩]) (ws := [.win 1 0 7 true]) (n := 0) (m := 0) (t' := 2) (ra_cons rfl rfl (ra_cons rfl rfl ra_nil)) rfl (by rfl) (r133_eq hy) rfl rfl rfl rfl (wb_win rfl rfl rfl ⟨rfl, Nat.le_of_ble_eq_true rfl⟩ rfl rfl wb_nil) an_nil rfl) ?_
  conv => whnf
  replace h := obind.elim h; obtain ⟨s1, hy, h⟩ := h
  refine sumK.introF [1] (sumRun_of (aqs := [.pointer (some ⟨0, 0, none⟩)]) (ws := [.win 1 0 7 true]) (n := 0) (m := 0) (t' := 2) (ra_cons rfl rfl ra_nil) rfl (by rfl) (r134_eq hy) rfl rfl rfl rfl (wb_win rfl rfl rfl ⟨rfl, Nat.le_of_ble_eq_true rfl⟩ rfl rfl wb_nil) an_nil rfl) ?_
  conv => whnf
  all_goals (cases h; exact Res.z rfl rfl rfl)
theorem ok94 (sip_Hasher_Sum : sip_Hasher → Option (Int × sip_Hasher)) (sip_Hasher_Write : sip_Hasher → (List UInt8) → Option sip_Hasher) (sip_New : api_Key → Option sip_Hasher) (hS : SumsOK Try.prog (aget (sums94 sip_Hasher_Sum sip_Hasher_Write sip_New))) : SumOK Try.prog 94 (s94 (sip_HashF sip_Hasher_Sum sip_Hasher_Write sip_New)) := by
  refine SumOK.of_leads tab_ok (fun ar os r ha hr => ?_) ⟨Try.f94, rfl, by decide, rfl⟩
  replace hr : r94 (sip_HashF sip_Hasher_Sum sip_Hasher_Write sip_New) ar (conts os) = some r := hr
  unfold r94 at hr
  generalize hc : conts os = C at hr
  replace hr := dV.elim hr; obtain ⟨v0, l1, y0, rfl, e0, hr⟩ := hr; obtain rfl := uvapi_Key_eq _ _ e0
  replace hr := dV.elim hr; obtain ⟨v1, l2, y1, rfl, e1, hr⟩ := hr; obtain rfl := asS_eq _ _ e1
  replace hr := dFin hr; obtain ⟨rfl, rfl, x, h, rfl⟩ := hr
  obtain rfl := kinds_nil hc
  exact ⟨_, rfl, leads94 sip_Hasher_Sum sip_Hasher_Write sip_New hS _ _ x h⟩
def sip_Hash : api_Key → (List UInt8) → Option Int := sip_HashF sip_Hasher_Sum sip_Hasher_Write sip_New
theorem lift94 : SumOK Try.prog 94 (s94 sip_Hash) := ok94 sip_Hasher_Sum sip_Hasher_Write sip_New (SumsOK.of_tab ⟨lift134, lift133, lift132, trivial⟩)
end Go.Vm.Code
namespace Go.Vm.Code
open Go Go.Vm
theorem Hash_eq {k : api_Key} {s : List UInt8} (h : s.length < 2 ^ 61) : sip_Hash k s = some (sumV (s.foldl wrB (newV k))) := by
  unfold sip_Hash sip_HashF
  rw [New_eq, Option.bind_some, Write_eq rfl (by simp [newV]) (by simp [newV]; omega), Option.bind_some, Sum_eq (by rw [(wrL s _).1]; rfl)]; rfl
theorem Hash_R {k : api_Key} {s : List UInt8} (h : s.length < 2 ^ 61) : sip_Hash k s = some (hashR tak finQ s.length (newV k).s s) := by
  rw [Hash_eq h]
  congr 1
  exact fold_hashR tak finQ s.length s (newV k) (Nat.le_refl _) rfl (by simp [newV]) rfl s.length (by simp [newV])
theorem ixor_rng (a b : Int) : 0 ≤ ixorI .u64 a b ∧ ixorI .u64 a b < 2 ^ 64 := by
  have := wU64m (((BitVec.ofInt (IntKind.bits .u64) a ^^^ BitVec.ofInt (IntKind.bits .u64) b).toNat : Nat) : Int)
  have e : ixorI .u64 a b = wI .u64 (((BitVec.ofInt (IntKind.bits .u64) a ^^^ BitVec.ofInt (IntKind.bits .u64) b).toNat : Nat) : Int) := rfl
  rw [e, this]; omega
theorem finQ_rng (q : Arr4_Int) : 0 ≤ finQ q ∧ finQ q < 2 ^ 64 := ixor_rng _ _
theorem hashR_rng (T : Arr4_Int → Int → Arr4_Int) (fin : Arr4_Int → Int) (hf : ∀ q, 0 ≤ fin q ∧ fin q < 2 ^ 64) (n : Nat) : ∀ (k : Nat) (l : List UInt8) (q : Arr4_Int), l.length ≤ k → 0 ≤ hashR T fin n q l ∧ hashR T fin n q l < 2 ^ 64
  | 0, l, q, h => by
    rw [hashR, dif_neg (by omega)]; exact hf _
  | k + 1, l, q, h => by
    rw [hashR]
    split
    · exact hashR_rng T fin hf n k _ _ (by simp; omega)
    · exact hf _
end Go.Vm.Code
namespace Go.Vm.Code
open Go Go.Vm Go.Proofs
set_option maxRecDepth 100000
set_option maxHeartbeats 4000000
set_option linter.unusedVariables false
def octet_Reader_BadF (ra0 : octet_Reader) : Option (Bool × octet_Reader) :=
  cond (!ra0.made)
    (
    some ((true, ra0)))
    (
    some ((ra0.bad, ra0)))
def rx102 (x : Bool × octet_Reader) : SRes := ⟨.bool x.1, [], [some [.string ⟨⟨x.2.s⟩⟩, .bool x.2.made, .bool x.2.bad]]⟩
def r102 (g : octet_Reader → Option (Bool × octet_Reader)) : Dec := dPt 0 unoctet_Reader fun (y0 : octet_Reader) => dEnd (ofG (g y0) rx102)
theorem r102_c {g : octet_Reader → Option (Bool × octet_Reader)} {y0 : octet_Reader} {x : Bool × octet_Reader} (hx : g y0 = some x) : r102 g [.pointer (some ⟨0, 0, none⟩)] [some [.string ⟨⟨y0.s⟩⟩, .bool y0.made, .bool y0.bad]] = some (rx102 x) := (dPt_eq (unoctet_Reader_c _)).trans (ofG_eq hx)
def s102 (g : octet_Reader → Option (Bool × octet_Reader)) : Summ := ⟨[.pt 3], r102 g⟩
theorem r102_eq {g : octet_Reader → Option (Bool × octet_Reader)} {y0 : octet_Reader} {x : Bool × octet_Reader} (hx : g y0 = some x) : (s102 g).run [.pointer (some ⟨0, 0, none⟩)] [some [.string ⟨⟨y0.s⟩⟩, .bool y0.made, .bool y0.bad]] = some (rx102 x) := r102_c hx
abbrev sums102 : List (Nat × Summ) := []
theorem leads102 (hS : SumsOK Try.prog (aget (sums102))) (ra0 : octet_Reader) (res : Bool × octet_Reader) (h : octet_Reader_BadF ra0 = some res) :
    Leads Try.prog 102 1 ⟨⟨102, 18, [(0, .pointer (some ⟨0, 0, none⟩))], [.code k102_3], [], false, none⟩, [], [(0, .cells [.string ⟨⟨ra0.s⟩⟩, .bool ra0.made, .bool ra0.bad])], 1⟩ (fun v H _ => Res 1 (rx102 res) v H) := by
  unfold octet_Reader_BadF at h
  refine ev_ok tab_ok hS true 3000 ?_
  conv => whnf
  refine br.h h ?_ ?_ ?_
  · rfl
  · clear h; intro hb h; conv => whnf
    all_goals (cases h)
    all_goals exact Res.of [] rfl nw_0 (by decide) js_0 (wr_s (rfl) (hs_cells rfl) wr_0)
  clear h; intro hb h; conv => whnf
  all_goals (cases h)
  all_goals exact Res.of [] rfl nw_0 (by decide) js_0 (wr_s (rfl) (hs_cells rfl) wr_0)
theorem ok102 (hS : SumsOK Try.prog (aget (sums102))) : SumOK Try.prog 102 (s102 (octet_Reader_BadF)) := by
  refine SumOK.of_leads tab_ok (fun ar os r ha hr => ?_) ⟨Try.f102, rfl, by decide, rfl⟩
  replace hr : r102 (octet_Reader_BadF) ar (conts os) = some r := hr
  unfold r102 at hr
  generalize hc : conts os = C at hr
  have hq := dPt.elim hr; clear hr; obtain ⟨c0, l1, C, y0, rfl, rfl, e0, hr⟩ := hq; obtain rfl := unoctet_Reader_eq _ _ e0
  replace hr := dFin hr; obtain ⟨rfl, rfl, x, h, rfl⟩ := hr
  obtain ⟨os, rfl, ha, hc⟩ := kinds_some ha hc
  obtain rfl := kinds_nil hc
  exact ⟨_, rfl, leads102 hS _ x h⟩
def octet_Reader_Bad : octet_Reader → Option (Bool × octet_Reader) := octet_Reader_BadF
theorem lift102 : SumOK Try.prog 102 (s102 octet_Reader_Bad) := ok102 (SumsOK.of_tab trivial)
def octet_Reader_TextF (octet_Reader_Bad : octet_Reader → Option (Bool × octet_Reader)) (ra0 : octet_Reader) (n : Int) : Option ((List UInt8) × octet_Reader) :=
  (octet_Reader_Bad ra0).bind fun b =>
  cond (b.1)
    (
    some (([], b.2)))
    (
    cond (decide (n < 0))
      (
      some (([], octet_Reader.mk b.2.s b.2.made true)))
      (
      cond (decide (n > (b.2.s.length : Int)))
        (
        some (([], octet_Reader.mk b.2.s b.2.made true)))
        (
        oreq (decide ((0 : Int) ≤ n ∧ n ≤ (b.2.s.length : Int))) <|
        oreq (decide ((0 : Int) ≤ n ∧ n ≤ (b.2.s.length : Int))) <|
        let t := (b.2.s.drop n.toNat).take (b.2.s.length - n.toNat)
        some ((b.2.s.take n.toNat, octet_Reader.mk t b.2.made b.2.bad)))))
def rx97 (x : (List UInt8) × octet_Reader) : SRes := ⟨.string ⟨⟨x.1⟩⟩, [], [some [.string ⟨⟨x.2.s⟩⟩, .bool x.2.made, .bool x.2.bad]]⟩
def r97 (g : octet_Reader → Int → Option ((List UInt8) × octet_Reader)) : Dec := dPt 0 unoctet_Reader fun (y0 : octet_Reader) => dV (asI .i64) fun (y1 : Int) => dEnd (ofG (g y0 y1) rx97)
theorem r97_c {g : octet_Reader → Int → Option ((List UInt8) × octet_Reader)} {y0 : octet_Reader} {y1 : Int} {x : (List UInt8) × octet_Reader} (hx : g y0 y1 = some x) : r97 g [.pointer (some ⟨0, 0, none⟩), .int .i64 y1] [some [.string ⟨⟨y0.s⟩⟩, .bool y0.made, .bool y0.bad]] = some (rx97 x) := (dPt_eq (unoctet_Reader_c _)).trans ((dV_eq (asI_c _)).trans (ofG_eq hx))
def s97 (g : octet_Reader → Int → Option ((List UInt8) × octet_Reader)) : Summ := ⟨[.pt 3, .v], r97 g⟩
theorem r97_eq {g : octet_Reader → Int → Option ((List UInt8) × octet_Reader)} {y0 : octet_Reader} {y1 : Int} {x : (List UInt8) × octet_Reader} (hx : g y0 y1 = some x) : (s97 g).run [.pointer (some ⟨0, 0, none⟩), .int .i64 y1] [some [.string ⟨⟨y0.s⟩⟩, .bool y0.made, .bool y0.bad]] = some (rx97 x) := r97_c hx
abbrev sums97 (octet_Reader_Bad : octet_Reader → Option (Bool × octet_Reader)) : List (Nat × Summ) := [(102, s102 octet_Reader_Bad)]
theorem leads97 (octet_Reader_Bad : octet_Reader → Option (Bool × octet_Reader)) (hS : SumsOK Try.prog (aget (sums97 octet_Reader_Bad))) (ra0 : octet_Reader) (n : Int) (res : (List UInt8) × octet_Reader) (h : octet_Reader_TextF octet_Reader_Bad ra0 n = some res) :
    Leads Try.prog 97 1 ⟨⟨97, 38, [(0, .pointer (some ⟨0, 0, none⟩)), (1, .int .i64 n)], [.code k97_21], [], false, none⟩, [], [(0, .cells [.string ⟨⟨ra0.s⟩⟩, .bool ra0.made, .bool ra0.bad])], 1⟩ (fun v H _ => Res 1 (rx97 res) v H) := by
  unfold octet_Reader_TextF at h
  refine ev_ok tab_ok hS true 3000 ?_
  conv => whnf
  replace h := obind.elim h; obtain ⟨b, hy, h⟩ := h
  refine sumK.introF [0] (sumRun_of (aqs := [.pointer (some ⟨0, 0, none⟩)]) (ws := [.win 0 0 3 true]) (n := 0) (m := 0) (t' := 1) (ra_cons rfl rfl ra_nil) rfl (by rfl) (r102_eq hy) rfl rfl rfl rfl (wb_win rfl rfl rfl ⟨rfl, Nat.le_of_ble_eq_true rfl⟩ rfl rfl wb_nil) an_nil rfl) ?_
  conv => whnf
  refine br.h h ?_ ?_ ?_
  · rfl
  · clear h; intro hb h; conv => whnf
    all_goals (cases h)
    all_goals exact Res.of [] rfl nw_0 (by decide) js_0 (wr_s (rfl) (hs_cells rfl) wr_0)
  clear h; intro hb h; conv => whnf
  refine br.h h ?_ ?_ ?_
  · rfl
  · clear h; intro hb h; conv => whnf
    all_goals (cases h)
    all_goals exact Res.of [] rfl nw_0 (by decide) js_0 (wr_s (rfl) (hs_cells rfl) wr_0)
  clear h; intro hb h; conv => whnf
  refine br.h h ?_ ?_ ?_
  · rfl
  · clear h; intro hb h; conv => whnf
    all_goals (cases h)
    all_goals exact Res.of [] rfl nw_0 (by decide) js_0 (wr_s (rfl) (hs_cells rfl) wr_0)
  clear h; intro hb h; conv => whnf
  replace h := oreq.elim h; obtain ⟨hb, h⟩ := h
  first | (refine req.intro hb ?_; conv => whnf) | skip
  replace h := oreq.elim h; obtain ⟨hb, h⟩ := h
  first | (refine req.intro hb ?_; conv => whnf) | skip
  let t : List UInt8 := (b.2.s.drop n.toNat).take (b.2.s.length - n.toNat)
  all_goals (cases h)
  all_goals exact Res.of [] rfl nw_0 (by decide) js_0 (wr_s (rfl) (hs_cells rfl) wr_0)
theorem ok97 (octet_Reader_Bad : octet_Reader → Option (Bool × octet_Reader)) (hS : SumsOK Try.prog (aget (sums97 octet_Reader_Bad))) : SumOK Try.prog 97 (s97 (octet_Reader_TextF octet_Reader_Bad)) := by
  refine SumOK.of_leads tab_ok (fun ar os r ha hr => ?_) ⟨Try.f97, rfl, by decide, rfl⟩
  replace hr : r97 (octet_Reader_TextF octet_Reader_Bad) ar (conts os) = some r := hr
  unfold r97 at hr
  generalize hc : conts os = C at hr
  have hq := dPt.elim hr; clear hr; obtain ⟨c0, l1, C, y0, rfl, rfl, e0, hr⟩ := hq; obtain rfl := unoctet_Reader_eq _ _ e0
  replace hr := dV.elim hr; obtain ⟨v1, l2, y1, rfl, e1, hr⟩ := hr; obtain rfl := asI_eq _ _ _ e1
  replace hr := dFin hr; obtain ⟨rfl, rfl, x, h, rfl⟩ := hr
  obtain ⟨os, rfl, ha, hc⟩ := kinds_some ha hc
  obtain rfl := kinds_nil hc
  exact ⟨_, rfl, leads97 octet_Reader_Bad hS _ _ x h⟩
def octet_Reader_Text : octet_Reader → Int → Option ((List UInt8) × octet_Reader) := octet_Reader_TextF octet_Reader_Bad
theorem lift97 : SumOK Try.prog 97 (s97 octet_Reader_Text) := ok97 octet_Reader_Bad (SumsOK.of_tab ⟨lift102, trivial⟩)
def octet_Reader_NumF (octet_Get : (List UInt8) → Int → Int → Option (Int × Bool)) (octet_Reader_Text : octet_Reader → Int → Option ((List UInt8) × octet_Reader)) (ra0 : octet_Reader) (k : Int) : Option (Int × octet_Reader) :=
  cond (decide (k < 1))
    (
    (octet_Reader_Text ra0 (-1)).bind fun t =>
    (octet_Get t.1 0 (-1)).bind fun xg =>
    some ((wI .i64 xg.1, t.2)))
    (
    cond (decide (k > 7))
      (
      (octet_Reader_Text ra0 (-1)).bind fun t1 =>
      (octet_Get t1.1 0 (-1)).bind fun xg1 =>
      some ((wI .i64 xg1.1, t1.2)))
      (
      (octet_Reader_Text ra0 k).bind fun t2 =>
      (octet_Get t2.1 0 k).bind fun xg2 =>
      some ((wI .i64 xg2.1, t2.2))))
def rx100 (x : Int × octet_Reader) : SRes := ⟨.int .i64 x.1, [], [some [.string ⟨⟨x.2.s⟩⟩, .bool x.2.made, .bool x.2.bad]]⟩
def r100 (g : octet_Reader → Int → Option (Int × octet_Reader)) : Dec := dPt 0 unoctet_Reader fun (y0 : octet_Reader) => dV (asI .i64) fun (y1 : Int) => dEnd (ofG (g y0 y1) rx100)
theorem r100_c {g : octet_Reader → Int → Option (Int × octet_Reader)} {y0 : octet_Reader} {y1 : Int} {x : Int × octet_Reader} (hx : g y0 y1 = some x) : r100 g [.pointer (some ⟨0, 0, none⟩), .int .i64 y1] [some [.string ⟨⟨y0.s⟩⟩, .bool y0.made, .bool y0.bad]] = some (rx100 x) := (dPt_eq (unoctet_Reader_c _)).trans ((dV_eq (asI_c _)).trans (ofG_eq hx))
def s100 (g : octet_Reader → Int → Option (Int × octet_Reader)) : Summ := ⟨[.pt 3, .v], r100 g⟩
theorem r100_eq {g : octet_Reader → Int → Option (Int × octet_Reader)} {y0 : octet_Reader} {y1 : Int} {x : Int × octet_Reader} (hx : g y0 y1 = some x) : (s100 g).run [.pointer (some ⟨0, 0, none⟩), .int .i64 y1] [some [.string ⟨⟨y0.s⟩⟩, .bool y0.made, .bool y0.bad]] = some (rx100 x) := r100_c hx
abbrev sums100 (octet_Get : (List UInt8) → Int → Int → Option (Int × Bool)) (octet_Reader_Text : octet_Reader → Int → Option ((List UInt8) × octet_Reader)) : List (Nat × Summ) := [(99, s99 octet_Get), (97, s97 octet_Reader_Text)]
theorem leads100 (octet_Get : (List UInt8) → Int → Int → Option (Int × Bool)) (octet_Reader_Text : octet_Reader → Int → Option ((List UInt8) × octet_Reader)) (hS : SumsOK Try.prog (aget (sums100 octet_Get octet_Reader_Text))) (ra0 : octet_Reader) (k : Int) (res : Int × octet_Reader) (h : octet_Reader_NumF octet_Get octet_Reader_Text ra0 k = some res) :
    Leads Try.prog 100 1 ⟨⟨100, 23, [(0, .pointer (some ⟨0, 0, none⟩)), (1, .int .i64 k)], [.code k100_10], [], false, none⟩, [], [(0, .cells [.string ⟨⟨ra0.s⟩⟩, .bool ra0.made, .bool ra0.bad])], 1⟩ (fun v H _ => Res 1 (rx100 res) v H) := by
  unfold octet_Reader_NumF at h
  refine ev_ok tab_ok hS true 3000 ?_
  conv => whnf
  refine br.h h ?_ ?_ ?_
  · rfl
  · clear h; intro hb h; conv => whnf
    replace h := obind.elim h; obtain ⟨t, hy, h⟩ := h
    refine sumK.introF [0] (sumRun_of (aqs := [.pointer (some ⟨0, 0, none⟩), .int .i64 (-1)]) (ws := [.win 0 0 3 true]) (n := 0) (m := 0) (t' := 1) (ra_cons rfl rfl (ra_cons rfl rfl ra_nil)) rfl (by rfl) (r97_eq hy) rfl rfl rfl rfl (wb_win rfl rfl rfl ⟨rfl, Nat.le_of_ble_eq_true rfl⟩ rfl rfl wb_nil) an_nil rfl) ?_
    conv => whnf
    replace h := obind.elim h; obtain ⟨xg, hy, h⟩ := h
    refine sumK.q rfl rfl (r99_eq hy) rfl rfl rfl ?_
    conv => whnf
    all_goals (cases h)
    all_goals exact Res.of [] rfl nw_0 (by decide) js_0 (wr_s (rfl) (hs_cells rfl) wr_0)
  clear h; intro hb h; conv => whnf
  refine br.h h ?_ ?_ ?_
  · rfl
  · clear h; intro hb h; conv => whnf
    replace h := obind.elim h; obtain ⟨t1, hy, h⟩ := h
    refine sumK.introF [0] (sumRun_of (aqs := [.pointer (some ⟨0, 0, none⟩), .int .i64 (-1)]) (ws := [.win 0 0 3 true]) (n := 0) (m := 0) (t' := 1) (ra_cons rfl rfl (ra_cons rfl rfl ra_nil)) rfl (by rfl) (r97_eq hy) rfl rfl rfl rfl (wb_win rfl rfl rfl ⟨rfl, Nat.le_of_ble_eq_true rfl⟩ rfl rfl wb_nil) an_nil rfl) ?_
    conv => whnf
    replace h := obind.elim h; obtain ⟨xg1, hy, h⟩ := h
    refine sumK.q rfl rfl (r99_eq hy) rfl rfl rfl ?_
    conv => whnf
    all_goals (cases h)
    all_goals exact Res.of [] rfl nw_0 (by decide) js_0 (wr_s (rfl) (hs_cells rfl) wr_0)
  clear h; intro hb h; conv => whnf
  replace h := obind.elim h; obtain ⟨t2, hy, h⟩ := h
  refine sumK.introF [0] (sumRun_of (aqs := [.pointer (some ⟨0, 0, none⟩), .int .i64 k]) (ws := [.win 0 0 3 true]) (n := 0) (m := 0) (t' := 1) (ra_cons rfl rfl (ra_cons rfl rfl ra_nil)) rfl (by rfl) (r97_eq hy) rfl rfl rfl rfl (wb_win rfl rfl rfl ⟨rfl, Nat.le_of_ble_eq_true rfl⟩ rfl rfl wb_nil) an_nil rfl) ?_
  conv => whnf
  replace h := obind.elim h; obtain ⟨xg2, hy, h⟩ := h
  refine sumK.q rfl rfl (r99_eq hy) rfl rfl rfl ?_
  conv => whnf
  all_goals (cases h)
  all_goals exact Res.of [] rfl nw_0 (by decide) js_0 (wr_s (rfl) (hs_cells rfl) wr_0)
theorem ok100 (octet_Get : (List UInt8) → Int → Int → Option (Int × Bool)) (octet_Reader_Text : octet_Reader → Int → Option ((List UInt8) × octet_Reader)) (hS : SumsOK Try.prog (aget (sums100 octet_Get octet_Reader_Text))) : SumOK Try.prog 100 (s100 (octet_Reader_NumF octet_Get octet_Reader_Text)) := by
  refine SumOK.of_leads tab_ok (fun ar os r ha hr => ?_) ⟨Try.f100, rfl, by decide, rfl⟩
  replace hr : r100 (octet_Reader_NumF octet_Get octet_Reader_Text) ar (conts os) = some r := hr
  unfold r100 at hr
  generalize hc : conts os = C at hr
  have hq := dPt.elim hr; clear hr; obtain ⟨c0, l1, C, y0, rfl, rfl, e0, hr⟩ := hq; obtain rfl := unoctet_Reader_eq _ _ e0
  replace hr := dV.elim hr; obtain ⟨v1, l2, y1, rfl, e1, hr⟩ := hr; obtain rfl := asI_eq _ _ _ e1
  replace hr := dFin hr; obtain ⟨rfl, rfl, x, h, rfl⟩ := hr
  obtain ⟨os, rfl, ha, hc⟩ := kinds_some ha hc
  obtain rfl := kinds_nil hc
  exact ⟨_, rfl, leads100 octet_Get octet_Reader_Text hS _ _ x h⟩
def octet_Reader_Num : octet_Reader → Int → Option (Int × octet_Reader) := octet_Reader_NumF octet_Get octet_Reader_Text
theorem lift100 : SumOK Try.prog 100 (s100 octet_Reader_Num) := ok100 octet_Get octet_Reader_Text (SumsOK.of_tab ⟨lift99, lift97, trivial⟩)
def octet_NewF (s : List UInt8) : Option octet_Reader :=
  some (octet_Reader.mk s true false)
def rx96 (x : octet_Reader) : SRes := ⟨.pointer (some ⟨0, 0, none⟩), [[.string ⟨⟨x.s⟩⟩, .bool x.made, .bool x.bad]], []⟩
def r96 (g : (List UInt8) → Option octet_Reader) : Dec := dV asS fun (y0 : List UInt8) => dEnd (ofG (g y0) rx96)
theorem r96_c {g : (List UInt8) → Option octet_Reader} {y0 : List UInt8} {x : octet_Reader} (hx : g y0 = some x) : r96 g [.string ⟨⟨y0⟩⟩] [] = some (rx96 x) := (dV_eq (asS_c)).trans (ofG_eq hx)
def s96 (g : (List UInt8) → Option octet_Reader) : Summ := ⟨[.v], r96 g⟩
theorem r96_eq {g : (List UInt8) → Option octet_Reader} {y0 : List UInt8} {x : octet_Reader} (hx : g y0 = some x) : (s96 g).run [.string ⟨⟨y0⟩⟩] [] = some (rx96 x) := r96_c hx
abbrev sums96 : List (Nat × Summ) := []
theorem leads96 (hS : SumsOK Try.prog (aget (sums96))) (s : List UInt8) (res : octet_Reader) (h : octet_NewF s = some res) :
    Leads Try.prog 96 0 ⟨⟨96, 6, [(0, .string ⟨⟨s⟩⟩)], [.code k96_3], [], false, none⟩, [], [], 0⟩ (fun v H _ => Res 0 (rx96 res) v H) := by
  unfold octet_NewF at h
  refine ev_ok tab_ok hS true 3000 ?_
  conv => whnf
  all_goals (cases h)
  all_goals exact Res.of [0] rfl (nw_s (rfl) (hs_cells rfl) nw_0) (by decide) (js_l (by decide) js_0) wr_0
theorem ok96 (hS : SumsOK Try.prog (aget (sums96))) : SumOK Try.prog 96 (s96 (octet_NewF)) := by
  refine SumOK.of_leads tab_ok (fun ar os r ha hr => ?_) ⟨Try.f96, rfl, by decide, rfl⟩
  replace hr : r96 (octet_NewF) ar (conts os) = some r := hr
  unfold r96 at hr
  generalize hc : conts os = C at hr
  replace hr := dV.elim hr; obtain ⟨v0, l1, y0, rfl, e0, hr⟩ := hr; obtain rfl := asS_eq _ _ e0
  replace hr := dFin hr; obtain ⟨rfl, rfl, x, h, rfl⟩ := hr
  obtain rfl := kinds_nil hc
  exact ⟨_, rfl, leads96 hS _ x h⟩
def octet_New : (List UInt8) → Option octet_Reader := octet_NewF
theorem lift96 : SumOK Try.prog 96 (s96 octet_New) := ok96 (SumsOK.of_tab trivial)
end Go.Vm.Code
namespace Go.Vm.Code
open Go Go.Vm
def rdr (r : octet_Reader) (k : Int) : octet_Reader := if r.bad = true ∨ k < 0 ∨ k > r.s.length then ⟨r.s, true, true⟩ else ⟨r.s.drop k.toNat, true, false⟩
def rdt (r : octet_Reader) (k : Int) : List UInt8 := if r.bad = true ∨ k < 0 ∨ k > r.s.length then [] else r.s.take k.toNat
theorem rBad_eq {r : octet_Reader} (h : r.made = true) : octet_Reader_Bad r = some (r.bad, r) := by
  unfold octet_Reader_Bad octet_Reader_BadF
  rw [h]; rfl
theorem rText_eq {r : octet_Reader} {k : Int} (h : r.made = true) : octet_Reader_Text r k = some (rdt r k, rdr r k) := by
  unfold octet_Reader_Text octet_Reader_TextF rdt rdr
  rw [rBad_eq h, Option.bind_some]
  simp only []
  obtain ⟨s, m, b⟩ := r
  simp only at h ⊢
  subst h
  cases b with
  | true => simp
  | false =>
    rw [cond_false]
    by_cases h1 : k < 0
    · rw [cond_p h1, if_pos (by omega), if_pos (by omega)]
    rw [cond_n h1]
    by_cases h2 : k > s.length
    · rw [cond_p h2, if_pos (by omega), if_pos (by omega)]
    · have e : (s.drop k.toNat).take (s.length - k.toNat) = s.drop k.toNat := List.take_of_length_le (by simp)
      rw [cond_n h2, oreq_p (by omega), oreq_p (by omega), if_neg (by simp; omega), if_neg (by simp; omega), e]
theorem rdr_made (r : octet_Reader) (k : Int) : (rdr r k).made = true := by unfold rdr; split <;> rfl
theorem rdr_ok {s : List UInt8} {k : Int} (h0 : 0 ≤ k) (h1 : k ≤ s.length) : rdr ⟨s, true, false⟩ k = ⟨s.drop k.toNat, true, false⟩ := by
  unfold rdr; rw [if_neg (by simp; omega)]
theorem rdt_ok {s : List UInt8} {k : Int} (h0 : 0 ≤ k) (h1 : k ≤ s.length) : rdt ⟨s, true, false⟩ k = s.take k.toNat := by
  unfold rdt; rw [if_neg (by simp; omega)]
theorem rdt_len (r : octet_Reader) (k : Int) : (rdt r k).length ≤ r.s.length := by
  unfold rdt; split
  · simp
  · rw [List.length_take]; omega
def rdn (r : octet_Reader) (k : Int) : Int := (valL (rdt r (if k < 1 ∨ k > 7 then -1 else k)) : Nat)
theorem rNum_eq {r : octet_Reader} {k : Int} (h : r.made = true) (hl : r.s.length < 2 ^ 61) : octet_Reader_Num r k = some (rdn r k, rdr r (if k < 1 ∨ k > 7 then -1 else k)) := by
  unfold octet_Reader_Num octet_Reader_NumF rdn
  have bad : octet_Reader_Text r (-1) = some ([], rdr r (-1)) := by
    rw [rText_eq h]; unfold rdt; rw [if_pos (by omega)]
  have e0 : rdt r (-1) = [] := by unfold rdt; rw [if_pos (by omega)]
  by_cases h1 : k < 1
  · rw [cond_p h1, bad, Option.bind_some, octet_Get_eq (by simp), if_pos (by omega), Option.bind_some, e0]; rfl
  rw [cond_n h1]
  by_cases h2 : k > 7
  · rw [cond_p h2, bad, Option.bind_some, octet_Get_eq (by simp), if_pos (by omega), Option.bind_some, e0]; rfl
  have hlen := rdt_len r k
  rw [cond_n h2, rText_eq h, Option.bind_some, octet_Get_eq (by simp only []; omega), Option.bind_some, if_neg (by omega)]
  simp only []
  unfold getS
  by_cases hc : r.bad = true ∨ k < 0 ∨ k > r.s.length
  · have e : rdt r k = [] := by unfold rdt; rw [if_pos hc]
    rw [e, if_neg (by simp; omega)]; rfl
  · have hl2 : (rdt r k).length = k.toNat := by unfold rdt; rw [if_neg hc]; simp; omega
    rw [if_pos (by omega)]
    have e2 : ((rdt r k).drop (0 : Int).toNat).take k.toNat = rdt r k := by
      rw [show (0 : Int).toNat = 0 from rfl, List.drop_zero, List.take_of_length_le (by omega)]
    have hv : valL (rdt r k) < 2 ^ 56 := by
      have := val_lt (rdt r k)
      rw [hl2] at this
      exact pow_step this (by omega)
    simp only [e2]
    rw [wI64 (by omega) (by omega)]
theorem getS_at {s : List UInt8} {p k : Int} (h0 : 0 ≤ p) (h1 : 1 ≤ k) (h8 : k ≤ 8) (h : p + k ≤ s.length) : getS s p k = (((valL ((s.drop p.toNat).take k.toNat) : Nat) : Int), true) := by
  unfold getS; rw [if_pos (by omega)]
theorem rNew_eq (s : List UInt8) : octet_New s = some ⟨s, true, false⟩ := rfl
end Go.Vm.Code
namespace Go.Vm.Code
open Go Go.Vm Go.Proofs
set_option maxRecDepth 100000
set_option maxHeartbeats 4000000
set_option linter.unusedVariables false
def saved_Right_s1 (addr_Right : api_Addr → Option Bool) (ra0 : saved_Record) (t8 : Int) (c : Int) : Option (Sum (Int × Int) Bool) :=
  cond (decide (t8 < (ra0.L.length : Int)))
    (
    oreq (decide ((0 : Int) ≤ t8 ∧ t8 < (ra0.L.length : Int))) <|
    (ra0.L[t8.toNat]?).bind fun (e : api_Backend) =>
    cond (e.State == 1)
      (
      cond (decide (e.ID ≤ c))
        (
        some (.inr (!(decide (t8 ≥ 0)))))
        (
        cond (decide (e.ID > ra0.Last))
          (
          some (.inr (!(decide (t8 ≥ 0)))))
          (
          cond (decide (e.Weight < 0))
            (
            some (.inr (!(decide (t8 ≥ 0)))))
            (
            cond (decide (e.Weight > 1000))
              (
              some (.inr (!(decide (t8 ≥ 0)))))
              (
              (addr_Right e.Addr).bind fun xr =>
              cond (!xr)
                (
                some (.inr (!(decide (t8 ≥ 0)))))
                (
                some (.inl (wI .i64 (t8 + 1), e.ID))))))))
      (
      cond (decide (e.ID ≤ c))
        (
        some (.inr (!(decide (t8 ≥ 0)))))
        (
        cond (decide (e.ID > ra0.Last))
          (
          some (.inr (!(decide (t8 ≥ 0)))))
          (
          cond (decide (e.Weight < 0))
            (
            some (.inr (!(decide (t8 ≥ 0)))))
            (
            cond (decide (e.Weight > 1000))
              (
              some (.inr (!(decide (t8 ≥ 0)))))
              (
              cond (!(e.State == 3))
                (
                some (.inr (!(decide (t8 ≥ 0)))))
                (
                (addr_Right e.Addr).bind fun xr1 =>
                cond (!xr1)
                  (
                  some (.inr (!(decide (t8 ≥ 0)))))
                  (
                  some (.inl (wI .i64 (t8 + 1), e.ID))))))))))
    (
    some (.inr (true)))
def saved_RightF (addr_Right : api_Addr → Option Bool) (ra0 : saved_Record) : Option Bool :=
  cond (decide (ra0.Last ≥ 0))
    (
    cond (decide (ra0.Last ≤ 65535))
      (
      cond (decide ((ra0.L.length : Int) ≤ 64))
        (
        iter (fun st => saved_Right_s1 addr_Right ra0 st.1 st.2) FUEL (0, 0))
        (
        some (false)))
      (
      some (false)))
    (
    some (false))
def rx56 (x : Bool) : SRes := ⟨.bool x, [], [none]⟩
def r56 (g : saved_Record → Option Bool) : Dec := dTr 1 (udsaved_Record 0) fun (y0 : saved_Record) => dEnd (ofG (g y0) rx56)
theorem r56_c {g : saved_Record → Option Bool} {y0 : saved_Record} {x : Bool} (hx : g y0 = some x) : r56 g [.agg ⟨[.int .u64 y0.Key.A, .int .u64 y0.Key.B, .int .i64 y0.Last, .slice (some ⟨0, 0, none⟩) y0.L.length 6]⟩] [some (vT capi_Backend y0.L)] = some (rx56 x) := (dTr_eq rfl rfl (udsaved_Record_c 0 _)).trans (ofG_eq hx)
def s56 (g : saved_Record → Option Bool) : Summ := ⟨[.tr [⟨none, 3, 0, 0, some 6⟩]], r56 g⟩
theorem r56_eq {g : saved_Record → Option Bool} {y0 : saved_Record} {x : Bool} (hx : g y0 = some x) : (s56 g).run [.agg ⟨[.int .u64 y0.Key.A, .int .u64 y0.Key.B, .int .i64 y0.Last, .slice (some ⟨0, 0, none⟩) y0.L.length 6]⟩] [some (vT capi_Backend y0.L)] = some (rx56 x) := r56_c hx
abbrev sums56 (addr_Right : api_Addr → Option Bool) : List (Nat × Summ) := [(82, s82 addr_Right)]
def head56_1 (ra0 : saved_Record) (t8 : Int) (c : Int) : VM :=
  ⟨⟨139, 19, [(0, .slice (some ⟨0, 0, none⟩) ra0.L.length 6), (1, .func (.func 113) ⟨[]⟩ ⟨[.pointer (some ⟨2, 0, none⟩), .pointer (some ⟨1, 0, none⟩)]⟩), (7, .int .i64 (ra0.L.length : Int)), (8, .int .i64 t8)], [.code k139_15, .inLoop k139_15, .inBlock 0, .code k139_20], [], false, none⟩, [⟨114, 9, [], [.inReg (opsD k114_1 2), .code .ret], [], false, none⟩, ⟨56, 27, [(20, .bool true)], [.inReg (opsD k56_3 18), .code .ret], [], false, none⟩], [(0, .row false (vT capi_Backend ra0.L)), (1, .cells [.int .u64 ra0.Key.A, .int .u64 ra0.Key.B, .int .i64 ra0.Last, .slice (some ⟨0, 0, none⟩) ra0.L.length 6]), (2, .cells [.int .i64 c])], 3⟩
theorem loop56_1 (addr_Right : api_Addr → Option Bool) (hS : SumsOK Try.prog (aget (sums56 addr_Right))) (ra0 : saved_Record) (res : Bool) : ∀ fuel (st : Int × Int) (o : Bool), iter (fun st => saved_Right_s1 addr_Right ra0 st.1 st.2) fuel st = some o → (o = res) →
    Leads Try.prog 56 1 (head56_1 ra0 st.1 st.2) (fun v H _ => Res 1 (rx56 res) v H) := by
  intro fuel st o h hc
  refine iter_leads (head := fun st => head56_1 ra0 st.1 st.2) (C := fun o => (o = res)) ?_ fuel st o h hc
  clear h hc o st fuel
  intro st o h hc
  obtain ⟨t8, c⟩ := st
  replace h : saved_Right_s1 addr_Right ra0 t8 c = some o := h
  show Leads Try.prog 56 1 (head56_1 ra0 t8 c) (fun v H _ => Res 1 (rx56 res) v H)
  unfold saved_Right_s1 at h
  refine ev_ok tab_ok hS true 3000 ?_
  conv => whnf
  refine br.h2 h ?_ ?_ ?_
  · rfl
  · clear h; intro hb h; conv => whnf
    all_goals (cases h; cases hc)
    all_goals exact Res.of [] rfl nw_0 (by decide) js_0 (wr_n wr_0)
  clear h; intro hb h; conv => whnf
  replace h := oreq.elim h; obtain ⟨hb, h⟩ := h
  first | (refine req.intro hb ?_; conv => whnf) | skip
  replace h := obind.elim h; obtain ⟨e, hy, h⟩ := h
  refine ld_T capi_Backend_len hy (by first | omega | exact Nat.zero_add _ | exact congrArg (· + _) (Nat.zero_add _)) rfl ?_
  conv => whnf
  refine br.h h ?_ ?_ ?_
  · rfl
  · clear h; intro hb h; conv => whnf
    refine br.h h ?_ ?_ ?_
    · rfl
    · clear h; intro hb h; conv => whnf
      all_goals (cases h; cases hc)
      all_goals exact Res.of [] rfl nw_0 (by decide) js_0 (wr_n wr_0)
    clear h; intro hb h; conv => whnf
    refine br.h h ?_ ?_ ?_
    · rfl
    · clear h; intro hb h; conv => whnf
      all_goals (cases h; cases hc)
      all_goals exact Res.of [] rfl nw_0 (by decide) js_0 (wr_n wr_0)
    clear h; intro hb h; conv => whnf
    refine br.h h ?_ ?_ ?_
    · rfl
    · clear h; intro hb h; conv => whnf
      all_goals (cases h; cases hc)
      all_goals exact Res.of [] rfl nw_0 (by decide) js_0 (wr_n wr_0)
    clear h; intro hb h; conv => whnf
    refine br.h h ?_ ?_ ?_
    · rfl
    · clear h; intro hb h; conv => whnf
      all_goals (cases h; cases hc)
      all_goals exact Res.of [] rfl nw_0 (by decide) js_0 (wr_n wr_0)
    clear h; intro hb h; conv => whnf
    replace h := obind.elim h; obtain ⟨xr, hy, h⟩ := h
    refine sumK.q rfl rfl (r82_eq hy) rfl rfl rfl ?_
    conv => whnf
    refine br.h h ?_ ?_ ?_
    · rfl
    · clear h; intro hb h; conv => whnf
      all_goals (cases h; cases hc)
      all_goals exact Res.of [] rfl nw_0 (by decide) js_0 (wr_n wr_0)
    clear h; intro hb h; conv => whnf
    cases h; simp only [Sum.elim_inl, head56_1] at hc
    exact lrA1 hc [(0, 0), (1, 1), (2, 2)] rfl
  clear h; intro hb h; conv => whnf
  refine br.h h ?_ ?_ ?_
  · rfl
  · clear h; intro hb h; conv => whnf
    all_goals (cases h; cases hc)
    all_goals exact Res.of [] rfl nw_0 (by decide) js_0 (wr_n wr_0)
  clear h; intro hb h; conv => whnf
  refine br.h h ?_ ?_ ?_
  · rfl
  · clear h; intro hb h; conv => whnf
    all_goals (cases h; cases hc)
    all_goals exact Res.of [] rfl nw_0 (by decide) js_0 (wr_n wr_0)
  clear h; intro hb h; conv => whnf
  refine br.h h ?_ ?_ ?_
  · rfl
  · clear h; intro hb h; conv => whnf
    all_goals (cases h; cases hc)
    all_goals exact Res.of [] rfl nw_0 (by decide) js_0 (wr_n wr_0)
  clear h; intro hb h; conv => whnf
  refine br.h h ?_ ?_ ?_
  · rfl
  · clear h; intro hb h; conv => whnf
    all_goals (cases h; cases hc)
    all_goals exact Res.of [] rfl nw_0 (by decide) js_0 (wr_n wr_0)
  clear h; intro hb h; conv => whnf
  refine br.h h ?_ ?_ ?_
  · rfl
  · clear h; intro hb h; conv => whnf
    all_goals (cases h; cases hc)
    all_goals exact Res.of [] rfl nw_0 (by decide) js_0 (wr_n wr_0)
  clear h; intro hb h; conv => whnf
  replace h := obind.elim h; obtain ⟨xr1, hy, h⟩ := h
  refine sumK.q rfl rfl (r82_eq hy) rfl rfl rfl ?_
  conv => whnf
  refine br.h h ?_ ?_ ?_
  · rfl
  · clear h; intro hb h; conv => whnf
    all_goals (cases h; cases hc)
    all_goals exact Res.of [] rfl nw_0 (by decide) js_0 (wr_n wr_0)
  clear h; intro hb h; conv => whnf
  cases h; simp only [Sum.elim_inl, head56_1] at hc
  exact lrA1 hc [(0, 0), (1, 1), (2, 2)] rfl
theorem leads56 (addr_Right : api_Addr → Option Bool) (hS : SumsOK Try.prog (aget (sums56 addr_Right))) (ra0 : saved_Record) (res : Bool) (h : saved_RightF addr_Right ra0 = some res) :
    Leads Try.prog 56 1 ⟨⟨56, 27, [(0, .agg ⟨[.int .u64 ra0.Key.A, .int .u64 ra0.Key.B, .int .i64 ra0.Last, .slice (some ⟨0, 0, none⟩) ra0.L.length 6]⟩)], [.code k56_7], [], false, none⟩, [], [(0, .row false (vT capi_Backend ra0.L))], 1⟩ (fun v H _ => Res 1 (rx56 res) v H) := by
  unfold saved_RightF at h
  refine ev_ok tab_ok hS true 3000 ?_
  conv => whnf
  refine br.h2 h ?_ ?_ ?_
  · rfl
  · clear h; intro hb h; conv => whnf
    all_goals (cases h)
    all_goals exact Res.of [] rfl nw_0 (by decide) js_0 (wr_n wr_0)
  clear h; intro hb h; conv => whnf
  refine br.h2 h ?_ ?_ ?_
  · rfl
  · clear h; intro hb h; conv => whnf
    all_goals (cases h)
    all_goals exact Res.of [] rfl nw_0 (by decide) js_0 (wr_n wr_0)
  clear h; intro hb h; conv => whnf
  refine br.h h ?_ ?_ ?_
  · rfl
  · clear h; intro hb h; conv => whnf
    have hl := loop56_1 addr_Right hS _ res _ _ _ h rfl; simp only [head56_1] at hl
    exact lrA1 hl [(0, 0), (1, 1), (2, 2)] rfl
  clear h; intro hb h; conv => whnf
  all_goals (cases h)
  all_goals exact Res.of [] rfl nw_0 (by decide) js_0 (wr_n wr_0)
theorem ok56 (addr_Right : api_Addr → Option Bool) (hS : SumsOK Try.prog (aget (sums56 addr_Right))) : SumOK Try.prog 56 (s56 (saved_RightF addr_Right)) := by
  refine SumOK.of_leads tab_ok (fun ar os r ha hr => ?_) ⟨Try.f56, rfl, by decide, rfl⟩
  replace hr : r56 (saved_RightF addr_Right) ar (conts os) = some r := hr
  unfold r56 at hr
  generalize hc : conts os = C at hr
  have hq := dTr.elim hr; clear hr; obtain ⟨v0, l1, c0, C, y0, rfl, rfl, e0, hr⟩ := hq; obtain ⟨rfl, rfl⟩ := udsaved_Record_eq e0; simp only [List.nil_append, List.cons_append] at hc
  replace hr := dFin hr; obtain ⟨rfl, rfl, x, h, rfl⟩ := hr
  obtain ⟨os, rfl, ha, hc⟩ := kinds_some ha hc
  obtain rfl := kinds_nil hc
  exact ⟨_, rfl, leads56 addr_Right hS _ x h⟩
def saved_Right : saved_Record → Option Bool := saved_RightF addr_Right
theorem lift56 : SumOK Try.prog 56 (s56 saved_Right) := ok56 addr_Right (SumsOK.of_tab ⟨lift82, trivial⟩)
def R55_Right_s1 (R04_Right : api_Addr → Option Bool) (ra0 : saved_Record) (last : Int) (i : Int) : Option (Sum (Int × Int) Bool) :=
  cond (decide (i < (ra0.L.length : Int)))
    (
    oreq (decide ((0 : Int) ≤ i ∧ i < (ra0.L.length : Int))) <|
    (ra0.L[i.toNat]?).bind fun (e : api_Backend) =>
    cond (decide (e.ID ≤ last))
      (
      some (.inr (false)))
      (
      cond (decide (e.ID > ra0.Last))
        (
        some (.inr (false)))
        (
        cond (decide (e.Weight < 0))
          (
          some (.inr (false)))
          (
          cond (decide (e.Weight > 1000))
            (
            some (.inr (false)))
            (
            cond (e.State != 1)
              (
              cond (e.State != 3)
                (
                some (.inr (false)))
                (
                (R04_Right e.Addr).bind fun xr =>
                cond (!xr)
                  (
                  some (.inr (false)))
                  (
                  some (.inl (e.ID, wI .i64 (i + 1))))))
              (
              (R04_Right e.Addr).bind fun xr1 =>
              cond (!xr1)
                (
                some (.inr (false)))
                (
                some (.inl (e.ID, wI .i64 (i + 1))))))))))
    (
    some (.inr (true)))
def R55_RightF (R04_Right : api_Addr → Option Bool) (ra0 : saved_Record) : Option Bool :=
  cond (decide (ra0.Last < 0))
    (
    some (false))
    (
    cond (decide (ra0.Last > 65535))
      (
      some (false))
      (
      cond (decide ((ra0.L.length : Int) > 64))
        (
        some (false))
        (
        iter (fun st => R55_Right_s1 R04_Right ra0 st.1 st.2) FUEL (0, 0))))
def rx57 (x : Bool) : SRes := ⟨.bool x, [], [none]⟩
def r57 (g : saved_Record → Option Bool) : Dec := dTr 1 (udsaved_Record 0) fun (y0 : saved_Record) => dEnd (ofG (g y0) rx57)
theorem r57_c {g : saved_Record → Option Bool} {y0 : saved_Record} {x : Bool} (hx : g y0 = some x) : r57 g [.agg ⟨[.int .u64 y0.Key.A, .int .u64 y0.Key.B, .int .i64 y0.Last, .slice (some ⟨0, 0, none⟩) y0.L.length 6]⟩] [some (vT capi_Backend y0.L)] = some (rx57 x) := (dTr_eq rfl rfl (udsaved_Record_c 0 _)).trans (ofG_eq hx)
def s57 (g : saved_Record → Option Bool) : Summ := ⟨[.tr [⟨none, 3, 0, 0, some 6⟩]], r57 g⟩
theorem r57_eq {g : saved_Record → Option Bool} {y0 : saved_Record} {x : Bool} (hx : g y0 = some x) : (s57 g).run [.agg ⟨[.int .u64 y0.Key.A, .int .u64 y0.Key.B, .int .i64 y0.Last, .slice (some ⟨0, 0, none⟩) y0.L.length 6]⟩] [some (vT capi_Backend y0.L)] = some (rx57 x) := r57_c hx
abbrev sums57 (R04_Right : api_Addr → Option Bool) : List (Nat × Summ) := [(115, s115 R04_Right)]
def head57_1 (ra0 : saved_Record) (last : Int) (i : Int) : VM :=
  ⟨⟨57, 71, [(1, .pointer (some ⟨1, 0, none⟩)), (3, .int .i64 last), (4, .int .i64 i)], [.code k57_23, .inLoop k57_23, .inBlock 0, .code k57_28], [], false, none⟩, [], [(0, .row false (vT capi_Backend ra0.L)), (1, .cells [.int .u64 ra0.Key.A, .int .u64 ra0.Key.B, .int .i64 ra0.Last, .slice (some ⟨0, 0, none⟩) ra0.L.length 6])], 2⟩
theorem loop57_1 (R04_Right : api_Addr → Option Bool) (hS : SumsOK Try.prog (aget (sums57 R04_Right))) (ra0 : saved_Record) (res : Bool) : ∀ fuel (st : Int × Int) (o : Bool), iter (fun st => R55_Right_s1 R04_Right ra0 st.1 st.2) fuel st = some o → (o = res) →
    Leads Try.prog 57 1 (head57_1 ra0 st.1 st.2) (fun v H _ => Res 1 (rx57 res) v H) := by
  intro fuel st o h hc
  refine iter_leads (head := fun st => head57_1 ra0 st.1 st.2) (C := fun o => (o = res)) ?_ fuel st o h hc
  clear h hc o st fuel
  intro st o h hc
  obtain ⟨last, i⟩ := st
  replace h : R55_Right_s1 R04_Right ra0 last i = some o := h
  show Leads Try.prog 57 1 (head57_1 ra0 last i) (fun v H _ => Res 1 (rx57 res) v H)
  unfold R55_Right_s1 at h
  refine ev_ok tab_ok hS true 3000 ?_
  conv => whnf
  refine br.h2 h ?_ ?_ ?_
  · rfl
  · clear h; intro hb h; conv => whnf
    all_goals (cases h; cases hc)
    all_goals exact Res.of [] rfl nw_0 (by decide) js_0 (wr_n wr_0)
  clear h; intro hb h; conv => whnf
  replace h := oreq.elim h; obtain ⟨hb, h⟩ := h
  first | (refine req.intro hb ?_; conv => whnf) | skip
  replace h := obind.elim h; obtain ⟨e, hy, h⟩ := h
  refine ld_T capi_Backend_len hy (by first | omega | exact Nat.zero_add _ | exact congrArg (· + _) (Nat.zero_add _)) rfl ?_
  conv => whnf
  refine br.h h ?_ ?_ ?_
  · rfl
  · clear h; intro hb h; conv => whnf
    all_goals (cases h; cases hc)
    all_goals exact Res.of [] rfl nw_0 (by decide) js_0 (wr_n wr_0)
  clear h; intro hb h; conv => whnf
  refine br.h h ?_ ?_ ?_
  · rfl
  · clear h; intro hb h; conv => whnf
    all_goals (cases h; cases hc)
    all_goals exact Res.of [] rfl nw_0 (by decide) js_0 (wr_n wr_0)
  clear h; intro hb h; conv => whnf
  refine br.h h ?_ ?_ ?_
  · rfl
  · clear h; intro hb h; conv => whnf
    all_goals (cases h; cases hc)
    all_goals exact Res.of [] rfl nw_0 (by decide) js_0 (wr_n wr_0)
  clear h; intro hb h; conv => whnf
  refine br.h h ?_ ?_ ?_
  · rfl
  · clear h; intro hb h; conv => whnf
    all_goals (cases h; cases hc)
    all_goals exact Res.of [] rfl nw_0 (by decide) js_0 (wr_n wr_0)
  clear h; intro hb h; conv => whnf
  refine br.h2 h ?_ ?_ ?_
  · rfl
  · clear h; intro hb h; conv => whnf
    replace h := obind.elim h; obtain ⟨xr1, hy, h⟩ := h
    refine sumK.q rfl rfl (r115_eq hy) rfl rfl rfl ?_
    conv => whnf
    refine br.h h ?_ ?_ ?_
    · rfl
    · clear h; intro hb h; conv => whnf
      all_goals (cases h; cases hc)
      all_goals exact Res.of [] rfl nw_0 (by decide) js_0 (wr_n wr_0)
    clear h; intro hb h; conv => whnf
    cases h; simp only [Sum.elim_inl, head57_1] at hc
    exact lrA0 hc [(0, 0), (1, 1)] rfl
  clear h; intro hb h; conv => whnf
  refine br.h h ?_ ?_ ?_
  · rfl
  · clear h; intro hb h; conv => whnf
    all_goals (cases h; cases hc)
    all_goals exact Res.of [] rfl nw_0 (by decide) js_0 (wr_n wr_0)
  clear h; intro hb h; conv => whnf
  replace h := obind.elim h; obtain ⟨xr, hy, h⟩ := h
  refine sumK.q rfl rfl (r115_eq hy) rfl rfl rfl ?_
  conv => whnf
  refine br.h h ?_ ?_ ?_
  · rfl
  · clear h; intro hb h; conv => whnf
    all_goals (cases h; cases hc)
    all_goals exact Res.of [] rfl nw_0 (by decide) js_0 (wr_n wr_0)
  clear h; intro hb h; conv => whnf
  cases h; simp only [Sum.elim_inl, head57_1] at hc
  exact lrA0 hc [(0, 0), (1, 1)] rfl
theorem leads57 (R04_Right : api_Addr → Option Bool) (hS : SumsOK Try.prog (aget (sums57 R04_Right))) (ra0 : saved_Record) (res : Bool) (h : R55_RightF R04_Right ra0 = some res) :
    Leads Try.prog 57 1 ⟨⟨57, 71, [(0, .agg ⟨[.int .u64 ra0.Key.A, .int .u64 ra0.Key.B, .int .i64 ra0.Last, .slice (some ⟨0, 0, none⟩) ra0.L.length 6]⟩)], [.code k57_32], [], false, none⟩, [], [(0, .row false (vT capi_Backend ra0.L))], 1⟩ (fun v H _ => Res 1 (rx57 res) v H) := by
  unfold R55_RightF at h
  refine ev_ok tab_ok hS true 3000 ?_
  conv => whnf
  refine br.h h ?_ ?_ ?_
  · rfl
  · clear h; intro hb h; conv => whnf
    all_goals (cases h)
    all_goals exact Res.of [] rfl nw_0 (by decide) js_0 (wr_n wr_0)
  clear h; intro hb h; conv => whnf
  refine br.h h ?_ ?_ ?_
  · rfl
  · clear h; intro hb h; conv => whnf
    all_goals (cases h)
    all_goals exact Res.of [] rfl nw_0 (by decide) js_0 (wr_n wr_0)
  clear h; intro hb h; conv => whnf
  refine br.h h ?_ ?_ ?_
  · rfl
  · clear h; intro hb h; conv => whnf
    all_goals (cases h)
    all_goals exact Res.of [] rfl nw_0 (by decide) js_0 (wr_n wr_0)
  clear h; intro hb h; conv => whnf
  have hl := loop57_1 R04_Right hS _ res _ _ _ h rfl; simp only [head57_1] at hl
  exact lrA0 hl [(0, 0), (1, 1)] rfl
theorem ok57 (R04_Right : api_Addr → Option Bool) (hS : SumsOK Try.prog (aget (sums57 R04_Right))) : SumOK Try.prog 57 (s57 (R55_RightF R04_Right)) := by
  refine SumOK.of_leads tab_ok (fun ar os r ha hr => ?_) ⟨Try.f57, rfl, by decide, rfl⟩
  replace hr : r57 (R55_RightF R04_Right) ar (conts os) = some r := hr
  unfold r57 at hr
  generalize hc : conts os = C at hr
  have hq := dTr.elim hr; clear hr; obtain ⟨v0, l1, c0, C, y0, rfl, rfl, e0, hr⟩ := hq; obtain ⟨rfl, rfl⟩ := udsaved_Record_eq e0; simp only [List.nil_append, List.cons_append] at hc
  replace hr := dFin hr; obtain ⟨rfl, rfl, x, h, rfl⟩ := hr
  obtain ⟨os, rfl, ha, hc⟩ := kinds_some ha hc
  obtain rfl := kinds_nil hc
  exact ⟨_, rfl, leads57 R04_Right hS _ x h⟩
def R55_Right : saved_Record → Option Bool := R55_RightF R04_Right
theorem lift57 : SumOK Try.prog 57 (s57 R55_Right) := ok57 R04_Right (SumsOK.of_tab ⟨lift115, trivial⟩)
def saved_sealF (octet_Put : Int → Int → Option (List UInt8)) (sip_Hash : api_Key → (List UInt8) → Option Int) (s : List UInt8) : Option (List UInt8) :=
  (sip_Hash (api_Key.mk 1 2) s).bind fun xh =>
  (octet_Put xh 8).bind fun p =>
  some (p)
def rx98 (x : List UInt8) : SRes := ⟨.string ⟨⟨x⟩⟩, [], []⟩
def r98 (g : (List UInt8) → Option (List UInt8)) : Dec := dV asS fun (y0 : List UInt8) => dEnd (ofG (g y0) rx98)
theorem r98_c {g : (List UInt8) → Option (List UInt8)} {y0 : List UInt8} {x : List UInt8} (hx : g y0 = some x) : r98 g [.string ⟨⟨y0⟩⟩] [] = some (rx98 x) := (dV_eq (asS_c)).trans (ofG_eq hx)
def s98 (g : (List UInt8) → Option (List UInt8)) : Summ := ⟨[.v], r98 g⟩
theorem r98_eq {g : (List UInt8) → Option (List UInt8)} {y0 : List UInt8} {x : List UInt8} (hx : g y0 = some x) : (s98 g).run [.string ⟨⟨y0⟩⟩] [] = some (rx98 x) := r98_c hx
abbrev sums98 (octet_Put : Int → Int → Option (List UInt8)) (sip_Hash : api_Key → (List UInt8) → Option Int) : List (Nat × Summ) := [(109, s109 octet_Put), (94, s94 sip_Hash)]
theorem leads98 (octet_Put : Int → Int → Option (List UInt8)) (sip_Hash : api_Key → (List UInt8) → Option Int) (hS : SumsOK Try.prog (aget (sums98 octet_Put sip_Hash))) (s : List UInt8) (res : List UInt8) (h : saved_sealF octet_Put sip_Hash s = some res) :
    Leads Try.prog 98 0 ⟨⟨98, 7, [(0, .string ⟨⟨s⟩⟩)], [.code k98_3], [], false, none⟩, [], [], 0⟩ (fun v H _ => Res 0 (rx98 res) v H) := by
  unfold saved_sealF at h
  refine ev_ok tab_ok hS true 3000 ?_
  conv => whnf
  replace h := obind.elim h; obtain ⟨xh, hy, h⟩ := h
  refine sumK.q rfl rfl (r94_eq hy) rfl rfl rfl ?_
  conv => whnf
  replace h := obind.elim h; obtain ⟨p, hy, h⟩ := h
  refine sumK.q rfl rfl (r109_eq hy) rfl rfl rfl ?_
  conv => whnf
  all_goals (cases h; exact Res.z rfl rfl rfl)
theorem ok98 (octet_Put : Int → Int → Option (List UInt8)) (sip_Hash : api_Key → (List UInt8) → Option Int) (hS : SumsOK Try.prog (aget (sums98 octet_Put sip_Hash))) : SumOK Try.prog 98 (s98 (saved_sealF octet_Put sip_Hash)) := by
  refine SumOK.of_leads tab_ok (fun ar os r ha hr => ?_) ⟨Try.f98, rfl, by decide, rfl⟩
  replace hr : r98 (saved_sealF octet_Put sip_Hash) ar (conts os) = some r := hr
  unfold r98 at hr
  generalize hc : conts os = C at hr
  replace hr := dV.elim hr; obtain ⟨v0, l1, y0, rfl, e0, hr⟩ := hr; obtain rfl := asS_eq _ _ e0
  replace hr := dFin hr; obtain ⟨rfl, rfl, x, h, rfl⟩ := hr
  obtain rfl := kinds_nil hc
  exact ⟨_, rfl, leads98 octet_Put sip_Hash hS _ x h⟩
def saved_seal : (List UInt8) → Option (List UInt8) := saved_sealF octet_Put sip_Hash
theorem lift98 : SumOK Try.prog 98 (s98 saved_seal) := ok98 octet_Put sip_Hash (SumsOK.of_tab ⟨lift109, lift94, trivial⟩)
def saved_Put_s1 (addr_Put : api_Addr → Option (List UInt8)) (octet_Put : Int → Int → Option (List UInt8)) (saved_seal : (List UInt8) → Option (List UInt8)) (ra0 : saved_Record) (t37 : Int) (s : List UInt8) : Option (Sum (Int × (List UInt8)) ((List UInt8) × Int)) :=
  cond (decide (t37 < (ra0.L.length : Int)))
    (
    oreq (decide ((0 : Int) ≤ t37 ∧ t37 < (ra0.L.length : Int))) <|
    (ra0.L[t37.toNat]?).bind fun (e : api_Backend) =>
    (addr_Put e.Addr).bind fun p4 =>
    let t1 := iorI .u64 (wI .u64 ((wI .u64 e.ID) * 2 ^ 16)) (wI .u64 e.Weight)
    (octet_Put t1 4).bind fun p5 =>
    oreq (decide (s.length + p5.length < 2 ^ 63)) <|
    let t2 := iorI .u64 (wI .u64 ((wI .u64 e.State) * 2 ^ 8)) (wI .u64 (p4.length : Int))
    (octet_Put t2 2).bind fun p6 =>
    oreq (decide ((s ++ p5).length + p6.length < 2 ^ 63)) <|
    oreq (decide (((s ++ p5) ++ p6).length + p4.length < 2 ^ 63)) <|
    some (.inl (wI .i64 (t37 + 1), ((s ++ p5) ++ p6) ++ p4)))
    (
    (saved_seal s).bind fun s1 =>
    oreq (decide (s.length + s1.length < 2 ^ 63)) <|
    some (.inr ((s ++ s1, 0))))
def saved_PutF (addr_Put : api_Addr → Option (List UInt8)) (octet_Put : Int → Int → Option (List UInt8)) (saved_Right : saved_Record → Option Bool) (saved_seal : (List UInt8) → Option (List UInt8)) (ra0 : saved_Record) : Option ((List UInt8) × Int) :=
  (saved_Right ra0).bind fun xr =>
  cond (!xr)
    (
    some (([], 1)))
    (
    (octet_Put ra0.Key.A 8).bind fun p =>
    oreq (decide (4 + p.length < 2 ^ 63)) <|
    (octet_Put ra0.Key.B 8).bind fun p1 =>
    oreq (decide (([67, 76, 75, 49] ++ p).length + p1.length < 2 ^ 63)) <|
    (octet_Put (wI .u64 ra0.Last) 2).bind fun p2 =>
    oreq (decide ((([67, 76, 75, 49] ++ p) ++ p1).length + p2.length < 2 ^ 63)) <|
    (octet_Put (wI .u64 (ra0.L.length : Int)) 1).bind fun p3 =>
    oreq (decide (((([67, 76, 75, 49] ++ p) ++ p1) ++ p2).length + p3.length < 2 ^ 63)) <|
    let t := ((([67, 76, 75, 49] ++ p) ++ p1) ++ p2) ++ p3
    iter (fun st => saved_Put_s1 addr_Put octet_Put saved_seal ra0 st.1 st.2) FUEL (0, t))
def rx53 (x : (List UInt8) × Int) : SRes := ⟨.tuple ⟨[.string ⟨⟨x.1⟩⟩, .int .i64 x.2]⟩, [], [none]⟩
def r53 (g : saved_Record → Option ((List UInt8) × Int)) : Dec := dTr 1 (udsaved_Record 0) fun (y0 : saved_Record) => dEnd (ofG (g y0) rx53)
theorem r53_c {g : saved_Record → Option ((List UInt8) × Int)} {y0 : saved_Record} {x : (List UInt8) × Int} (hx : g y0 = some x) : r53 g [.agg ⟨[.int .u64 y0.Key.A, .int .u64 y0.Key.B, .int .i64 y0.Last, .slice (some ⟨0, 0, none⟩) y0.L.length 6]⟩] [some (vT capi_Backend y0.L)] = some (rx53 x) := (dTr_eq rfl rfl (udsaved_Record_c 0 _)).trans (ofG_eq hx)
def s53 (g : saved_Record → Option ((List UInt8) × Int)) : Summ := ⟨[.tr [⟨none, 3, 0, 0, some 6⟩]], r53 g⟩
theorem r53_eq {g : saved_Record → Option ((List UInt8) × Int)} {y0 : saved_Record} {x : (List UInt8) × Int} (hx : g y0 = some x) : (s53 g).run [.agg ⟨[.int .u64 y0.Key.A, .int .u64 y0.Key.B, .int .i64 y0.Last, .slice (some ⟨0, 0, none⟩) y0.L.length 6]⟩] [some (vT capi_Backend y0.L)] = some (rx53 x) := r53_c hx
abbrev sums53 (addr_Put : api_Addr → Option (List UInt8)) (octet_Put : Int → Int → Option (List UInt8)) (saved_Right : saved_Record → Option Bool) (saved_seal : (List UInt8) → Option (List UInt8)) : List (Nat × Summ) := [(110, s110 addr_Put), (109, s109 octet_Put), (56, s56 saved_Right), (98, s98 saved_seal)]
def head53_1 (ra0 : saved_Record) (t37 : Int) (s : List UInt8) : VM :=
  ⟨⟨53, 72, [(4, .pointer (some ⟨2, 0, none⟩)), (5, .func (.func 108) ⟨[]⟩ ⟨[.pointer (some ⟨2, 0, none⟩)]⟩), (35, .slice (some ⟨0, 0, none⟩) ra0.L.length 6), (36, .int .i64 (ra0.L.length : Int)), (37, .int .i64 t37)], [.code k53_28, .inLoop k53_28, .inBlock 0, .code k53_33], [], false, none⟩, [], [(0, .row false (vT capi_Backend ra0.L)), (2, .cells [.string ⟨⟨s⟩⟩])], 19⟩
theorem loop53_1 (addr_Put : api_Addr → Option (List UInt8)) (octet_Put : Int → Int → Option (List UInt8)) (saved_Right : saved_Record → Option Bool) (saved_seal : (List UInt8) → Option (List UInt8)) (hS : SumsOK Try.prog (aget (sums53 addr_Put octet_Put saved_Right saved_seal))) (ra0 : saved_Record) (res : (List UInt8) × Int) : ∀ fuel (st : Int × (List UInt8)) (o : (List UInt8) × Int), iter (fun st => saved_Put_s1 addr_Put octet_Put saved_seal ra0 st.1 st.2) fuel st = some o → (o = res) →
    Leads Try.prog 53 1 (head53_1 ra0 st.1 st.2) (fun v H _ => Res 1 (rx53 res) v H) := by
  intro fuel st o h hc
  refine iter_leads (head := fun st => head53_1 ra0 st.1 st.2) (C := fun o => (o = res)) ?_ fuel st o h hc
  clear h hc o st fuel
  intro st o h hc
  obtain ⟨t37, s⟩ := st
  replace h : saved_Put_s1 addr_Put octet_Put saved_seal ra0 t37 s = some o := h
  show Leads Try.prog 53 1 (head53_1 ra0 t37 s) (fun v H _ => Res 1 (rx53 res) v H)
  unfold saved_Put_s1 at h
  refine ev_ok tab_ok hS true 3000 ?_
  conv => whnf
  refine br.h2 h ?_ ?_ ?_
  · rfl
  · clear h; intro hb h; conv => whnf
    replace h := obind.elim h; obtain ⟨s1, hy, h⟩ := h
    refine sumK.q rfl rfl (r98_eq hy) rfl rfl rfl ?_
    conv => whnf
    replace h := oreq.elim h; obtain ⟨hb, h⟩ := h
    first | (refine req.intro hb ?_; conv => whnf) | skip
    all_goals (cases h; cases hc)
    all_goals exact Res.of [] rfl nw_0 (by decide) js_0 (wr_n wr_0)
  clear h; intro hb h; conv => whnf
  replace h := oreq.elim h; obtain ⟨hb, h⟩ := h
  first | (refine req.intro hb ?_; conv => whnf) | skip
  replace h := obind.elim h; obtain ⟨e, hy, h⟩ := h
  refine ld_T capi_Backend_len hy (by first | omega | exact Nat.zero_add _ | exact congrArg (· + _) (Nat.zero_add _)) rfl ?_
  conv => whnf
  replace h := obind.elim h; obtain ⟨p4, hy, h⟩ := h
  refine sumK.q rfl rfl (r110_eq hy) rfl rfl rfl ?_
  conv => whnf
  let t1 : Int := iorI .u64 (wI .u64 ((wI .u64 e.ID) * 2 ^ 16)) (wI .u64 e.Weight)
  replace h := obind.elim h; obtain ⟨p5, hy, h⟩ := h
  refine sumK.q rfl rfl (r109_eq hy) rfl rfl rfl ?_
  conv => whnf
  replace h := oreq.elim h; obtain ⟨hb, h⟩ := h
  first | (refine req.intro hb ?_; conv => whnf) | skip
  let t2 : Int := iorI .u64 (wI .u64 ((wI .u64 e.State) * 2 ^ 8)) (wI .u64 (p4.length : Int))
  replace h := obind.elim h; obtain ⟨p6, hy, h⟩ := h
  refine sumK.q rfl rfl (r109_eq hy) rfl rfl rfl ?_
  conv => whnf
  replace h := oreq.elim h; obtain ⟨hb, h⟩ := h
  first | (refine req.intro hb ?_; conv => whnf) | skip
  replace h := oreq.elim h; obtain ⟨hb, h⟩ := h
  first | (refine req.intro hb ?_; conv => whnf) | skip
  cases h; simp only [Sum.elim_inl, head53_1] at hc
  exact lrA0 hc [(0, 0), (2, 2)] rfl
theorem leads53 (addr_Put : api_Addr → Option (List UInt8)) (octet_Put : Int → Int → Option (List UInt8)) (saved_Right : saved_Record → Option Bool) (saved_seal : (List UInt8) → Option (List UInt8)) (hS : SumsOK Try.prog (aget (sums53 addr_Put octet_Put saved_Right saved_seal))) (ra0 : saved_Record) (res : (List UInt8) × Int) (h : saved_PutF addr_Put octet_Put saved_Right saved_seal ra0 = some res) :
    Leads Try.prog 53 1 ⟨⟨53, 72, [(0, .agg ⟨[.int .u64 ra0.Key.A, .int .u64 ra0.Key.B, .int .i64 ra0.Last, .slice (some ⟨0, 0, none⟩) ra0.L.length 6]⟩)], [.code k53_42], [], false, none⟩, [], [(0, .row false (vT capi_Backend ra0.L))], 1⟩ (fun v H _ => Res 1 (rx53 res) v H) := by
  unfold saved_PutF at h
  refine ev_ok tab_ok hS true 3000 ?_
  conv => whnf
  replace h := obind.elim h; obtain ⟨xr, hy, h⟩ := h
  refine sumK.introF [] (sumRun_of (aqs := [.agg ⟨[.int .u64 ra0.Key.A, .int .u64 ra0.Key.B, .int .i64 ra0.Last, .slice (some ⟨0, 0, none⟩) ra0.L.length 6]⟩]) (ws := [.blk 0 false]) (n := 0) (m := 0) (t' := 2) (ra_cons (ra_tr rfl rfl (vp_at rfl rfl (rn_T capi_Backend_flat) rfl vp_nil) rfl) rfl ra_nil) rfl (by rfl) (r56_eq hy) rfl rfl rfl rfl (wb_skip rfl wb_nil) an_nil rfl) ?_
  conv => whnf
  refine br.h h ?_ ?_ ?_
  · rfl
  · clear h; intro hb h; conv => whnf
    all_goals (cases h)
    all_goals exact Res.of [] rfl nw_0 (by decide) js_0 (wr_n wr_0)
  clear h; intro hb h; conv => whnf
  replace h := obind.elim h; obtain ⟨p, hy, h⟩ := h
  refine sumK.q rfl rfl (r109_eq hy) rfl rfl rfl ?_
  conv => whnf
  replace h := oreq.elim h; obtain ⟨hb, h⟩ := h
  first | (refine req.intro hb ?_; conv => whnf) | skip
  replace h := obind.elim h; obtain ⟨p1, hy, h⟩ := h
  refine sumK.q rfl rfl (r109_eq hy) rfl rfl rfl ?_
  conv => whnf
  replace h := oreq.elim h; obtain ⟨hb, h⟩ := h
  first | (refine req.intro hb ?_; conv => whnf) | skip
  replace h := obind.elim h; obtain ⟨p2, hy, h⟩ := h
  refine sumK.q rfl rfl (r109_eq hy) rfl rfl rfl ?_
  conv => whnf
  replace h := oreq.elim h; obtain ⟨hb, h⟩ := h
  first | (refine req.intro hb ?_; conv => whnf) | skip
  replace h := obind.elim h; obtain ⟨p3, hy, h⟩ := h
  refine sumK.q rfl rfl (r109_eq hy) rfl rfl rfl ?_
  conv => whnf
  replace h := oreq.elim h; obtain ⟨hb, h⟩ := h
  first | (refine req.intro hb ?_; conv => whnf) | skip
  let t : List UInt8 := ((([67, 76, 75, 49] ++ p) ++ p1) ++ p2) ++ p3
  have hl := loop53_1 addr_Put octet_Put saved_Right saved_seal hS _ res _ _ _ h rfl; simp only [head53_1] at hl
  exact lrA0 hl [(0, 0), (2, 2)] rfl
theorem ok53 (addr_Put : api_Addr → Option (List UInt8)) (octet_Put : Int → Int → Option (List UInt8)) (saved_Right : saved_Record → Option Bool) (saved_seal : (List UInt8) → Option (List UInt8)) (hS : SumsOK Try.prog (aget (sums53 addr_Put octet_Put saved_Right saved_seal))) : SumOK Try.prog 53 (s53 (saved_PutF addr_Put octet_Put saved_Right saved_seal)) := by
  refine SumOK.of_leads tab_ok (fun ar os r ha hr => ?_) ⟨Try.f53, rfl, by decide, rfl⟩
  replace hr : r53 (saved_PutF addr_Put octet_Put saved_Right saved_seal) ar (conts os) = some r := hr
  unfold r53 at hr
  generalize hc : conts os = C at hr
  have hq := dTr.elim hr; clear hr; obtain ⟨v0, l1, c0, C, y0, rfl, rfl, e0, hr⟩ := hq; obtain ⟨rfl, rfl⟩ := udsaved_Record_eq e0; simp only [List.nil_append, List.cons_append] at hc
  replace hr := dFin hr; obtain ⟨rfl, rfl, x, h, rfl⟩ := hr
  obtain ⟨os, rfl, ha, hc⟩ := kinds_some ha hc
  obtain rfl := kinds_nil hc
  exact ⟨_, rfl, leads53 addr_Put octet_Put saved_Right saved_seal hS _ x h⟩
def saved_Put : saved_Record → Option ((List UInt8) × Int) := saved_PutF addr_Put octet_Put saved_Right saved_seal
theorem lift53 : SumOK Try.prog 53 (s53 saved_Put) := ok53 addr_Put octet_Put saved_Right saved_seal (SumsOK.of_tab ⟨lift110, lift109, lift56, lift98, trivial⟩)
def R55_SealF (R02_Put : Int → Int → Option (List UInt8)) (R12_Hash : api_Key → (List UInt8) → Option Int) (s : List UInt8) : Option (List UInt8) :=
  (R12_Hash (api_Key.mk 1 2) s).bind fun xh =>
  (R02_Put xh 8).bind fun p =>
  some (p)
def rx49 (x : List UInt8) : SRes := ⟨.string ⟨⟨x⟩⟩, [], []⟩
def r49 (g : (List UInt8) → Option (List UInt8)) : Dec := dV asS fun (y0 : List UInt8) => dEnd (ofG (g y0) rx49)
theorem r49_c {g : (List UInt8) → Option (List UInt8)} {y0 : List UInt8} {x : List UInt8} (hx : g y0 = some x) : r49 g [.string ⟨⟨y0⟩⟩] [] = some (rx49 x) := (dV_eq (asS_c)).trans (ofG_eq hx)
def s49 (g : (List UInt8) → Option (List UInt8)) : Summ := ⟨[.v], r49 g⟩
theorem r49_eq {g : (List UInt8) → Option (List UInt8)} {y0 : List UInt8} {x : List UInt8} (hx : g y0 = some x) : (s49 g).run [.string ⟨⟨y0⟩⟩] [] = some (rx49 x) := r49_c hx
abbrev sums49 (R02_Put : Int → Int → Option (List UInt8)) (R12_Hash : api_Key → (List UInt8) → Option Int) : List (Nat × Summ) := [(104, s104 R02_Put), (95, s95 R12_Hash)]
theorem leads49 (R02_Put : Int → Int → Option (List UInt8)) (R12_Hash : api_Key → (List UInt8) → Option Int) (hS : SumsOK Try.prog (aget (sums49 R02_Put R12_Hash))) (s : List UInt8) (res : List UInt8) (h : R55_SealF R02_Put R12_Hash s = some res) :
    Leads Try.prog 49 0 ⟨⟨49, 7, [(0, .string ⟨⟨s⟩⟩)], [.code k49_3], [], false, none⟩, [], [], 0⟩ (fun v H _ => Res 0 (rx49 res) v H) := by
  unfold R55_SealF at h
  refine ev_ok tab_ok hS true 3000 ?_
  conv => whnf
  replace h := obind.elim h; obtain ⟨xh, hy, h⟩ := h
  refine sumK.q rfl rfl (r95_eq hy) rfl rfl rfl ?_
  conv => whnf
  replace h := obind.elim h; obtain ⟨p, hy, h⟩ := h
  refine sumK.q rfl rfl (r104_eq hy) rfl rfl rfl ?_
  conv => whnf
  all_goals (cases h; exact Res.z rfl rfl rfl)
theorem ok49 (R02_Put : Int → Int → Option (List UInt8)) (R12_Hash : api_Key → (List UInt8) → Option Int) (hS : SumsOK Try.prog (aget (sums49 R02_Put R12_Hash))) : SumOK Try.prog 49 (s49 (R55_SealF R02_Put R12_Hash)) := by
  refine SumOK.of_leads tab_ok (fun ar os r ha hr => ?_) ⟨Try.f49, rfl, by decide, rfl⟩
  replace hr : r49 (R55_SealF R02_Put R12_Hash) ar (conts os) = some r := hr
  unfold r49 at hr
  generalize hc : conts os = C at hr
  replace hr := dV.elim hr; obtain ⟨v0, l1, y0, rfl, e0, hr⟩ := hr; obtain rfl := asS_eq _ _ e0
  replace hr := dFin hr; obtain ⟨rfl, rfl, x, h, rfl⟩ := hr
  obtain rfl := kinds_nil hc
  exact ⟨_, rfl, leads49 R02_Put R12_Hash hS _ x h⟩
def R55_Seal : (List UInt8) → Option (List UInt8) := R55_SealF R02_Put R12_Hash
theorem lift49 : SumOK Try.prog 49 (s49 R55_Seal) := ok49 R02_Put R12_Hash (SumsOK.of_tab ⟨lift104, lift95, trivial⟩)
def saved_Of_s1 (k : api_Key) (last : Int) (l : List api_Backend) (t15 : Int) (c : List api_Backend) : Option (Sum (Int × (List api_Backend)) saved_Record) :=
  cond (decide (t15 < (l.length : Int)))
    (
    oreq (decide ((0 : Int) ≤ t15 ∧ t15 < (l.length : Int))) <|
    (l[t15.toNat]?).bind fun (e : api_Backend) =>
    cond (e.State == 4)
      (
      some (.inl (wI .i64 (t15 + 1), c)))
      (
      cond (e.State == 3)
        (
        oreq (decide ((c.length + 1) * 48 ≤ 2 ^ 47)) <|
        let row := c ++ [e]
        some (.inl (wI .i64 (t15 + 1), row)))
        (
        oreq (decide ((c.length + 1) * 48 ≤ 2 ^ 47)) <|
        let row1 := c ++ [api_Backend.mk e.ID e.Weight 1 e.Addr]
        some (.inl (wI .i64 (t15 + 1), row1)))))
    (
    some (.inr (saved_Record.mk k last c)))
def saved_OfF (k : api_Key) (last : Int) (l : List api_Backend) : Option saved_Record :=
  iter (fun st => saved_Of_s1 k last l st.1 st.2) FUEL (0, [])
def rx58 (x : saved_Record) : SRes := ⟨.agg ⟨[.int .u64 x.Key.A, .int .u64 x.Key.B, .int .i64 x.Last, .slice (some ⟨0, 0, none⟩) x.L.length 6]⟩, [(vT capi_Backend x.L)], [none]⟩
def r58 (g : api_Key → Int → (List api_Backend) → Option saved_Record) : Dec := dV uvapi_Key fun (y0 : api_Key) => dV (asI .i64) fun (y1 : Int) => dSl 0 6 (unR 6 unapi_Backend) fun (y2 : List api_Backend) => dEnd (ofG (g y0 y1 y2) rx58)
theorem r58_c {g : api_Key → Int → (List api_Backend) → Option saved_Record} {y0 : api_Key} {y1 : Int} {y2 : List api_Backend} {x : saved_Record} (hx : g y0 y1 y2 = some x) : r58 g [.agg ⟨[.int .u64 y0.A, .int .u64 y0.B]⟩, .int .i64 y1, .slice (some ⟨0, 0, none⟩) y2.length 6] [some (vT capi_Backend y2)] = some (rx58 x) := (dV_eq (uvapi_Key_c _)).trans ((dV_eq (asI_c _)).trans ((dSl_eq (unR_vT (by first | exact capi_Key_len | exact capi_Addr_len | exact capi_Backend_len | exact cArr4_Int_len | exact csip_Hasher_len | exact coctet_Reader_len | exact cR23_Step_len | exact chealth_Rule_len | exact chealth_State_len | exact cregistry_row_len) (by decide) unapi_Backend_c _)).trans (ofG_eq hx)))
def s58 (g : api_Key → Int → (List api_Backend) → Option saved_Record) : Summ := ⟨[.v, .v, .sl 6], r58 g⟩
theorem r58_eq {g : api_Key → Int → (List api_Backend) → Option saved_Record} {y0 : api_Key} {y1 : Int} {y2 : List api_Backend} {x : saved_Record} (hx : g y0 y1 y2 = some x) : (s58 g).run [.agg ⟨[.int .u64 y0.A, .int .u64 y0.B]⟩, .int .i64 y1, .slice (some ⟨0, 0, none⟩) y2.length 6] [some (vT capi_Backend y2)] = some (rx58 x) := r58_c hx
abbrev sums58 : List (Nat × Summ) := []
def head58_1 (k : api_Key) (last : Int) (l : List api_Backend) (t15 : Int) (c : List api_Backend) : VM :=
  ⟨⟨58, 34, [(6, .pointer (some ⟨2, 0, none⟩)), (7, .pointer (some ⟨3, 0, none⟩)), (13, .slice (some ⟨0, 0, none⟩) l.length 6), (14, .int .i64 (l.length : Int)), (15, .int .i64 t15)], [.code k58_23, .inLoop k58_23, .inBlock 0, .code k58_28], [], false, none⟩, [], [(0, .row false (vT capi_Backend l)), (2, .cells [.int .u64 0, .int .u64 0, .int .i64 0, .slice none 0 0]), (3, .cells [.int .u64 k.A, .int .u64 k.B, .int .i64 last, .slice (some ⟨4, 0, none⟩) c.length 6]), (4, .row true (vT capi_Backend c))], 5⟩
theorem loop58_1 (hS : SumsOK Try.prog (aget (sums58))) (k : api_Key) (last : Int) (l : List api_Backend) (res : saved_Record) : ∀ fuel (st : Int × (List api_Backend)) (o : saved_Record), iter (fun st => saved_Of_s1 k last l st.1 st.2) fuel st = some o → (o = res) →
    Leads Try.prog 58 1 (head58_1 k last l st.1 st.2) (fun v H _ => Res 1 (rx58 res) v H) := by
  intro fuel st o h hc
  refine iter_leads (head := fun st => head58_1 k last l st.1 st.2) (C := fun o => (o = res)) ?_ fuel st o h hc
  clear h hc o st fuel
  intro st o h hc
  obtain ⟨t15, c⟩ := st
  replace h : saved_Of_s1 k last l t15 c = some o := h
  show Leads Try.prog 58 1 (head58_1 k last l t15 c) (fun v H _ => Res 1 (rx58 res) v H)
  unfold saved_Of_s1 at h
  refine ev_ok tab_ok hS true 3000 ?_
  conv => whnf
  refine br.h2 h ?_ ?_ ?_
  · rfl
  · clear h; intro hb h; conv => whnf
    all_goals (cases h; cases hc)
    all_goals exact Res.of [4] rfl (nw_s (rn_T capi_Backend_flat) (hs_row rfl) nw_0) (by decide) (js_l (by decide) js_0) (wr_n wr_0)
  clear h; intro hb h; conv => whnf
  replace h := oreq.elim h; obtain ⟨hb, h⟩ := h
  first | (refine req.intro hb ?_; conv => whnf) | skip
  replace h := obind.elim h; obtain ⟨e, hy, h⟩ := h
  refine ld_T capi_Backend_len hy (by first | omega | exact Nat.zero_add _ | exact congrArg (· + _) (Nat.zero_add _)) rfl ?_
  conv => whnf
  refine br.h h ?_ ?_ ?_
  · rfl
  · clear h; intro hb h; conv => whnf
    cases h; simp only [Sum.elim_inl, head58_1] at hc
    exact lrA0 hc [(0, 0), (2, 2), (3, 3), (4, 4)] rfl
  clear h; intro hb h; conv => whnf
  refine br.h h ?_ ?_ ?_
  · rfl
  · clear h; intro hb h; conv => whnf
    replace h := oreq.elim h; obtain ⟨hb, h⟩ := h
    refine req.intro (ap_req (of_decide_eq_true hb) (by first | rfl | omega | (simp; done) | (simp; omega) | (simp at *; omega)) rfl (by first | rfl | omega | (simp; done) | (simp; omega) | (simp at *; omega)) (by first | rfl | exact vI_one _ _ | exact vS_one _ | exact vB_one _ | exact vT_one (by first | exact capi_Key_one | exact capi_Addr_one | exact capi_Backend_one | exact cArr4_Int_one | exact csip_Hasher_one | exact coctet_Reader_one | exact cR23_Step_one | exact chealth_Rule_one | exact chealth_State_one | exact cregistry_row_one) _ | (rw [ofBytes_vI]; exact vI_one _ _) | (simp [vI_one, vS_one, vB_one, vI_drop, vI_take, vS_drop, vS_take]; done) | (simp; exact List.all_eq_true.1 (vT_one (by first | exact capi_Key_one | exact capi_Addr_one | exact capi_Backend_one | exact cArr4_Int_one | exact csip_Hasher_one | exact coctet_Reader_one | exact cR23_Step_one | exact chealth_Rule_one | exact chealth_State_one | exact cregistry_row_one) _))) rfl) ?_
    conv => whnf
    let row : List api_Backend := c ++ [e]
    refine pk_apT capi_Backend_len (xs := c) (ys := [e]) rfl (by first | rfl | omega) (by first | rfl | omega | (simp; done) | (simp; omega) | (simp at *; omega)) (by first | rfl | omega | (simp; done) | (simp; omega) | (simp at *; omega)) ?_
    conv => whnf
    cases h; simp only [Sum.elim_inl, head58_1] at hc
    exact lrA0 hc [(0, 0), (2, 2), (3, 3), (4, 7)] rfl
  clear h; intro hb h; conv => whnf
  replace h := oreq.elim h; obtain ⟨hb, h⟩ := h
  refine req.intro (ap_req (of_decide_eq_true hb) (by first | rfl | omega | (simp; done) | (simp; omega) | (simp at *; omega)) rfl (by first | rfl | omega | (simp; done) | (simp; omega) | (simp at *; omega)) (by first | rfl | exact vI_one _ _ | exact vS_one _ | exact vB_one _ | exact vT_one (by first | exact capi_Key_one | exact capi_Addr_one | exact capi_Backend_one | exact cArr4_Int_one | exact csip_Hasher_one | exact coctet_Reader_one | exact cR23_Step_one | exact chealth_Rule_one | exact chealth_State_one | exact cregistry_row_one) _ | (rw [ofBytes_vI]; exact vI_one _ _) | (simp [vI_one, vS_one, vB_one, vI_drop, vI_take, vS_drop, vS_take]; done) | (simp; exact List.all_eq_true.1 (vT_one (by first | exact capi_Key_one | exact capi_Addr_one | exact capi_Backend_one | exact cArr4_Int_one | exact csip_Hasher_one | exact coctet_Reader_one | exact cR23_Step_one | exact chealth_Rule_one | exact chealth_State_one | exact cregistry_row_one) _))) rfl) ?_
  conv => whnf
  let row1 : List api_Backend := c ++ [api_Backend.mk e.ID e.Weight 1 e.Addr]
  refine pk_apT capi_Backend_len (xs := c) (ys := [api_Backend.mk e.ID e.Weight 1 e.Addr]) rfl (by first | rfl | omega) (by first | rfl | omega | (simp; done) | (simp; omega) | (simp at *; omega)) (by first | rfl | omega | (simp; done) | (simp; omega) | (simp at *; omega)) ?_
  conv => whnf
  cases h; simp only [Sum.elim_inl, head58_1] at hc
  exact lrA0 hc [(0, 0), (2, 2), (3, 3), (4, 7)] rfl
theorem leads58 (hS : SumsOK Try.prog (aget (sums58))) (k : api_Key) (last : Int) (l : List api_Backend) (res : saved_Record) (h : saved_OfF k last l = some res) :
    Leads Try.prog 58 1 ⟨⟨58, 34, [(0, .agg ⟨[.int .u64 k.A, .int .u64 k.B]⟩), (1, .int .i64 last), (2, .slice (some ⟨0, 0, none⟩) l.length 6)], [.code k58_31], [], false, none⟩, [], [(0, .row false (vT capi_Backend l))], 1⟩ (fun v H _ => Res 1 (rx58 res) v H) := by
  unfold saved_OfF at h
  refine ev_ok tab_ok hS true 3000 ?_
  conv => whnf
  have hl := loop58_1 hS _ _ _ res _ _ _ h rfl; simp only [head58_1] at hl
  refine Leads.nilC 3 3 6 ?_
  exact lrA0 hl [(0, 0), (2, 2), (3, 3), (4, 4)] rfl
theorem ok58 (hS : SumsOK Try.prog (aget (sums58))) : SumOK Try.prog 58 (s58 (saved_OfF)) := by
  refine SumOK.of_leads tab_ok (fun ar os r ha hr => ?_) ⟨Try.f58, rfl, by decide, rfl⟩
  replace hr : r58 (saved_OfF) ar (conts os) = some r := hr
  unfold r58 at hr
  generalize hc : conts os = C at hr
  replace hr := dV.elim hr; obtain ⟨v0, l1, y0, rfl, e0, hr⟩ := hr; obtain rfl := uvapi_Key_eq _ _ e0
  replace hr := dV.elim hr; obtain ⟨v1, l2, y1, rfl, e1, hr⟩ := hr; obtain rfl := asI_eq _ _ _ e1
  have hq := dSl.elim hr; clear hr; obtain ⟨c2, l3, C, y2, rfl, rfl, e2, hr⟩ := hq; obtain rfl := unT_eq unapi_Backend_eq e2
  replace hr := dFin hr; obtain ⟨rfl, rfl, x, h, rfl⟩ := hr
  obtain ⟨os, rfl, ha, hc⟩ := kinds_some ha hc
  obtain rfl := kinds_nil hc
  exact ⟨_, rfl, leads58 hS _ _ _ x h⟩
def saved_Of : api_Key → Int → (List api_Backend) → Option saved_Record := saved_OfF
theorem lift58 : SumOK Try.prog 58 (s58 saved_Of) := ok58 (SumsOK.of_tab trivial)
def R23_Same_s1 (a : List api_Backend) (b : List api_Backend) (i : Int) : Option (Sum Int Bool) :=
  cond (decide (i < (a.length : Int)))
    (
    oreq (decide ((0 : Int) ≤ i ∧ i < (a.length : Int))) <|
    (a[i.toNat]?).bind fun (e : api_Backend) =>
    oreq (decide ((0 : Int) ≤ i ∧ i < (b.length : Int))) <|
    (b[i.toNat]?).bind fun (e1 : api_Backend) =>
    let t := !((e.ID == e1.ID) && ((e.Weight == e1.Weight) && ((e.State == e1.State) && ((e.Addr.V6 == e1.Addr.V6) && ((e.Addr.Hi == e1.Addr.Hi) && ((e.Addr.Lo == e1.Addr.Lo) && true))))))
    cond (t)
      (
      some (.inr (false)))
      (
      some (.inl (wI .i64 (i + 1)))))
    (
    some (.inr (true)))
def R23_SameF (a : List api_Backend) (b : List api_Backend) : Option Bool :=
  cond ((a.length : Int) != (b.length : Int))
    (
    some (false))
    (
    iter (fun st => R23_Same_s1 a b st) FUEL 0)
def rx21 (x : Bool) : SRes := ⟨.bool x, [], [none, none]⟩
def r21 (g : (List api_Backend) → (List api_Backend) → Option Bool) : Dec := dSl 0 6 (unR 6 unapi_Backend) fun (y0 : List api_Backend) => dSl 1 6 (unR 6 unapi_Backend) fun (y1 : List api_Backend) => dEnd (ofG (g y0 y1) rx21)
theorem r21_c {g : (List api_Backend) → (List api_Backend) → Option Bool} {y0 : List api_Backend} {y1 : List api_Backend} {x : Bool} (hx : g y0 y1 = some x) : r21 g [.slice (some ⟨0, 0, none⟩) y0.length 6, .slice (some ⟨1, 0, none⟩) y1.length 6] [some (vT capi_Backend y0), some (vT capi_Backend y1)] = some (rx21 x) := (dSl_eq (unR_vT (by first | exact capi_Key_len | exact capi_Addr_len | exact capi_Backend_len | exact cArr4_Int_len | exact csip_Hasher_len | exact coctet_Reader_len | exact cR23_Step_len | exact chealth_Rule_len | exact chealth_State_len | exact cregistry_row_len) (by decide) unapi_Backend_c _)).trans ((dSl_eq (unR_vT (by first | exact capi_Key_len | exact capi_Addr_len | exact capi_Backend_len | exact cArr4_Int_len | exact csip_Hasher_len | exact coctet_Reader_len | exact cR23_Step_len | exact chealth_Rule_len | exact chealth_State_len | exact cregistry_row_len) (by decide) unapi_Backend_c _)).trans (ofG_eq hx))
def s21 (g : (List api_Backend) → (List api_Backend) → Option Bool) : Summ := ⟨[.sl 6, .sl 6], r21 g⟩
theorem r21_eq {g : (List api_Backend) → (List api_Backend) → Option Bool} {y0 : List api_Backend} {y1 : List api_Backend} {x : Bool} (hx : g y0 y1 = some x) : (s21 g).run [.slice (some ⟨0, 0, none⟩) y0.length 6, .slice (some ⟨1, 0, none⟩) y1.length 6] [some (vT capi_Backend y0), some (vT capi_Backend y1)] = some (rx21 x) := r21_c hx
abbrev sums21 : List (Nat × Summ) := []
def head21_1 (a : List api_Backend) (b : List api_Backend) (i : Int) : VM :=
  ⟨⟨21, 26, [(0, .slice (some ⟨0, 0, none⟩) a.length 6), (1, .slice (some ⟨1, 0, none⟩) b.length 6), (5, .int .i64 i)], [.code k21_18, .inLoop k21_18, .inBlock 0, .code k21_23], [], false, none⟩, [], [(0, .row false (vT capi_Backend a)), (1, .row false (vT capi_Backend b))], 2⟩
theorem loop21_1 (hS : SumsOK Try.prog (aget (sums21))) (a : List api_Backend) (b : List api_Backend) (res : Bool) : ∀ fuel (st : Int) (o : Bool), iter (fun st => R23_Same_s1 a b st) fuel st = some o → (o = res) →
    Leads Try.prog 21 2 (head21_1 a b st) (fun v H _ => Res 2 (rx21 res) v H) := by
  intro fuel st o h hc
  refine iter_leads (head := fun st => head21_1 a b st) (C := fun o => (o = res)) ?_ fuel st o h hc
  clear h hc o st fuel
  intro i o h hc
  replace h : R23_Same_s1 a b i = some o := h
  show Leads Try.prog 21 2 (head21_1 a b i) (fun v H _ => Res 2 (rx21 res) v H)
  unfold R23_Same_s1 at h
  refine ev_ok tab_ok hS true 3000 ?_
  conv => whnf
  refine br.h2 h ?_ ?_ ?_
  · rfl
  · clear h; intro hb h; conv => whnf
    all_goals (cases h; cases hc)
    all_goals exact Res.of [] rfl nw_0 (by decide) js_0 (wr_n (wr_n wr_0))
  clear h; intro hb h; conv => whnf
  replace h := oreq.elim h; obtain ⟨hb, h⟩ := h
  first | (refine req.intro hb ?_; conv => whnf) | skip
  replace h := obind.elim h; obtain ⟨e, hy, h⟩ := h
  refine ld_T capi_Backend_len hy (by first | omega | exact Nat.zero_add _ | exact congrArg (· + _) (Nat.zero_add _)) rfl ?_
  conv => whnf
  replace h := oreq.elim h; obtain ⟨hb, h⟩ := h
  first | (refine req.intro hb ?_; conv => whnf) | skip
  replace h := obind.elim h; obtain ⟨e1, hy, h⟩ := h
  refine ld_T capi_Backend_len hy (by first | omega | exact Nat.zero_add _ | exact congrArg (· + _) (Nat.zero_add _)) rfl ?_
  conv => whnf
  let t : Bool := !((e.ID == e1.ID) && ((e.Weight == e1.Weight) && ((e.State == e1.State) && ((e.Addr.V6 == e1.Addr.V6) && ((e.Addr.Hi == e1.Addr.Hi) && ((e.Addr.Lo == e1.Addr.Lo) && true))))))
  refine br.h h ?_ ?_ ?_
  · rfl
  · clear h; intro hb h; conv => whnf
    all_goals (cases h; cases hc)
    all_goals exact Res.of [] rfl nw_0 (by decide) js_0 (wr_n (wr_n wr_0))
  clear h; intro hb h; conv => whnf
  cases h; simp only [Sum.elim_inl, head21_1] at hc
  exact lrA0 hc [(0, 0), (1, 1)] rfl
theorem leads21 (hS : SumsOK Try.prog (aget (sums21))) (a : List api_Backend) (b : List api_Backend) (res : Bool) (h : R23_SameF a b = some res) :
    Leads Try.prog 21 2 ⟨⟨21, 26, [(0, .slice (some ⟨0, 0, none⟩) a.length 6), (1, .slice (some ⟨1, 0, none⟩) b.length 6)], [.code k21_26], [], false, none⟩, [], [(0, .row false (vT capi_Backend a)), (1, .row false (vT capi_Backend b))], 2⟩ (fun v H _ => Res 2 (rx21 res) v H) := by
  unfold R23_SameF at h
  refine ev_ok tab_ok hS true 3000 ?_
  conv => whnf
  refine br.h h ?_ ?_ ?_
  · rfl
  · clear h; intro hb h; conv => whnf
    all_goals (cases h)
    all_goals exact Res.of [] rfl nw_0 (by decide) js_0 (wr_n (wr_n wr_0))
  clear h; intro hb h; conv => whnf
  have hl := loop21_1 hS _ _ res _ _ _ h rfl; simp only [head21_1] at hl
  exact lrA0 hl [(0, 0), (1, 1)] rfl
theorem ok21 (hS : SumsOK Try.prog (aget (sums21))) : SumOK Try.prog 21 (s21 (R23_SameF)) := by
  refine SumOK.of_leads tab_ok (fun ar os r ha hr => ?_) ⟨Try.f21, rfl, by decide, rfl⟩
  replace hr : r21 (R23_SameF) ar (conts os) = some r := hr
  unfold r21 at hr
  generalize hc : conts os = C at hr
  have hq := dSl.elim hr; clear hr; obtain ⟨c0, l1, C, y0, rfl, rfl, e0, hr⟩ := hq; obtain rfl := unT_eq unapi_Backend_eq e0
  have hq := dSl.elim hr; clear hr; obtain ⟨c1, l2, C, y1, rfl, rfl, e1, hr⟩ := hq; obtain rfl := unT_eq unapi_Backend_eq e1
  replace hr := dFin hr; obtain ⟨rfl, rfl, x, h, rfl⟩ := hr
  obtain ⟨os, rfl, ha, hc⟩ := kinds_some ha hc
  obtain ⟨os, rfl, ha, hc⟩ := kinds_some ha hc
  obtain rfl := kinds_nil hc
  exact ⟨_, rfl, leads21 hS _ _ x h⟩
def R23_Same : (List api_Backend) → (List api_Backend) → Option Bool := R23_SameF
theorem lift21 : SumOK Try.prog 21 (s21 R23_Same) := ok21 (SumsOK.of_tab trivial)
def R55_SameF (R23_Same : (List api_Backend) → (List api_Backend) → Option Bool) (a : saved_Record) (b : saved_Record) : Option Bool :=
  let t := (a.Key.A == b.Key.A) && ((a.Key.B == b.Key.B) && true)
  cond (t)
    (
    cond (a.Last == b.Last)
      (
      (R23_Same a.L b.L).bind fun s =>
      some (s))
      (
      some (false)))
    (
    some (false))
def rx51 (x : Bool) : SRes := ⟨.bool x, [], [none, none]⟩
def r51 (g : saved_Record → saved_Record → Option Bool) : Dec := dTr 1 (udsaved_Record 0) fun (y0 : saved_Record) => dTr 1 (udsaved_Record 1) fun (y1 : saved_Record) => dEnd (ofG (g y0 y1) rx51)
theorem r51_c {g : saved_Record → saved_Record → Option Bool} {y0 : saved_Record} {y1 : saved_Record} {x : Bool} (hx : g y0 y1 = some x) : r51 g [.agg ⟨[.int .u64 y0.Key.A, .int .u64 y0.Key.B, .int .i64 y0.Last, .slice (some ⟨0, 0, none⟩) y0.L.length 6]⟩, .agg ⟨[.int .u64 y1.Key.A, .int .u64 y1.Key.B, .int .i64 y1.Last, .slice (some ⟨1, 0, none⟩) y1.L.length 6]⟩] [some (vT capi_Backend y0.L), some (vT capi_Backend y1.L)] = some (rx51 x) := (dTr_eq rfl rfl (udsaved_Record_c 0 _)).trans ((dTr_eq rfl rfl (udsaved_Record_c 1 _)).trans (ofG_eq hx))
def s51 (g : saved_Record → saved_Record → Option Bool) : Summ := ⟨[.tr [⟨none, 3, 0, 0, some 6⟩], .tr [⟨none, 3, 0, 0, some 6⟩]], r51 g⟩
theorem r51_eq {g : saved_Record → saved_Record → Option Bool} {y0 : saved_Record} {y1 : saved_Record} {x : Bool} (hx : g y0 y1 = some x) : (s51 g).run [.agg ⟨[.int .u64 y0.Key.A, .int .u64 y0.Key.B, .int .i64 y0.Last, .slice (some ⟨0, 0, none⟩) y0.L.length 6]⟩, .agg ⟨[.int .u64 y1.Key.A, .int .u64 y1.Key.B, .int .i64 y1.Last, .slice (some ⟨1, 0, none⟩) y1.L.length 6]⟩] [some (vT capi_Backend y0.L), some (vT capi_Backend y1.L)] = some (rx51 x) := r51_c hx
abbrev sums51 (R23_Same : (List api_Backend) → (List api_Backend) → Option Bool) : List (Nat × Summ) := [(21, s21 R23_Same)]
theorem leads51 (R23_Same : (List api_Backend) → (List api_Backend) → Option Bool) (hS : SumsOK Try.prog (aget (sums51 R23_Same))) (a : saved_Record) (b : saved_Record) (res : Bool) (h : R55_SameF R23_Same a b = some res) :
    Leads Try.prog 51 2 ⟨⟨51, 24, [(0, .agg ⟨[.int .u64 a.Key.A, .int .u64 a.Key.B, .int .i64 a.Last, .slice (some ⟨0, 0, none⟩) a.L.length 6]⟩), (1, .agg ⟨[.int .u64 b.Key.A, .int .u64 b.Key.B, .int .i64 b.Last, .slice (some ⟨1, 0, none⟩) b.L.length 6]⟩)], [.code k51_3], [], false, none⟩, [], [(0, .row false (vT capi_Backend a.L)), (1, .row false (vT capi_Backend b.L))], 2⟩ (fun v H _ => Res 2 (rx51 res) v H) := by
  unfold R55_SameF at h
  refine ev_ok tab_ok hS true 3000 ?_
  conv => whnf
  let t : Bool := (a.Key.A == b.Key.A) && ((a.Key.B == b.Key.B) && true)
  refine br.h2 h ?_ ?_ ?_
  · rfl
  · clear h; intro hb h; conv => whnf
    all_goals (cases h)
    all_goals exact Res.of [] rfl nw_0 (by decide) js_0 (wr_n (wr_n wr_0))
  clear h; intro hb h; conv => whnf
  refine br.h2 h ?_ ?_ ?_
  · rfl
  · clear h; intro hb h; conv => whnf
    all_goals (cases h)
    all_goals exact Res.of [] rfl nw_0 (by decide) js_0 (wr_n (wr_n wr_0))
  clear h; intro hb h; conv => whnf
  replace h := obind.elim h; obtain ⟨s, hy, h⟩ := h
  refine sumK.introF [] (sumRun_of (aqs := [.slice (some ⟨0, 0, none⟩) (a.L : List api_Backend).length 6, .slice (some ⟨1, 0, none⟩) (b.L : List api_Backend).length 6]) (ws := [.win 0 0 (a.L.length * 6) false, .win 1 0 (b.L.length * 6) false]) (n := 0) (m := 0) (t' := 4) (ra_cons (by first | rfl | exact ra_allT capi_Backend_len capi_Backend_flat rfl rfl (by first | rfl | omega) (by first | rfl | (simp; done)) | exact ra_slT capi_Backend_len capi_Backend_flat rfl rfl (by first | rfl | omega) (by first | rfl | omega) (by first | omega | (simp at *; omega))) rfl (ra_cons (by first | rfl | exact ra_allT capi_Backend_len capi_Backend_flat rfl rfl (by first | rfl | omega) (by first | rfl | (simp; done)) | exact ra_slT capi_Backend_len capi_Backend_flat rfl rfl (by first | rfl | omega) (by first | rfl | omega) (by first | omega | (simp at *; omega))) rfl ra_nil)) rfl (by rfl) (r21_eq hy) rfl rfl rfl rfl (wb_skip rfl (wb_skip rfl wb_nil)) an_nil rfl) ?_
  conv => whnf
  all_goals (cases h)
  all_goals exact Res.of [] rfl nw_0 (by decide) js_0 (wr_n (wr_n wr_0))
theorem ok51 (R23_Same : (List api_Backend) → (List api_Backend) → Option Bool) (hS : SumsOK Try.prog (aget (sums51 R23_Same))) : SumOK Try.prog 51 (s51 (R55_SameF R23_Same)) := by
  refine SumOK.of_leads tab_ok (fun ar os r ha hr => ?_) ⟨Try.f51, rfl, by decide, rfl⟩
  replace hr : r51 (R55_SameF R23_Same) ar (conts os) = some r := hr
  unfold r51 at hr
  generalize hc : conts os = C at hr
  have hq := dTr.elim hr; clear hr; obtain ⟨v0, l1, c0, C, y0, rfl, rfl, e0, hr⟩ := hq; obtain ⟨rfl, rfl⟩ := udsaved_Record_eq e0; simp only [List.nil_append, List.cons_append] at hc
  have hq := dTr.elim hr; clear hr; obtain ⟨v1, l2, c1, C, y1, rfl, rfl, e1, hr⟩ := hq; obtain ⟨rfl, rfl⟩ := udsaved_Record_eq e1; simp only [List.nil_append, List.cons_append] at hc
  replace hr := dFin hr; obtain ⟨rfl, rfl, x, h, rfl⟩ := hr
  obtain ⟨os, rfl, ha, hc⟩ := kinds_some ha hc
  obtain ⟨os, rfl, ha, hc⟩ := kinds_some ha hc
  obtain rfl := kinds_nil hc
  exact ⟨_, rfl, leads51 R23_Same hS _ _ x h⟩
def R55_Same : saved_Record → saved_Record → Option Bool := R55_SameF R23_Same
theorem lift51 : SumOK Try.prog 51 (s51 R55_Same) := ok51 R23_Same (SumsOK.of_tab ⟨lift21, trivial⟩)
end Go.Vm.Code
namespace Go.Vm.Code
open Go Go.Vm
def scan {α σ ρ : Type} (f : α → σ → Sum σ ρ) (fin : σ → ρ) : List α → σ → ρ
  | [], s => fin s
  | a :: l, s => match f a s with
    | .inl s' => scan f fin l s'
    | .inr r => r
theorem iter_scan {α σ ρ S : Type} (L : List α) (f : α → σ → Sum σ ρ) (fin : σ → ρ) (emb : Nat → σ → S) (step : S → Option (Sum S ρ)) (I : Nat → σ → Prop)
    (h1 : ∀ i s (hi : i < L.length), I i s → (∀ s', f L[i] s = .inl s' → step (emb i s) = some (.inl (emb (i + 1) s')) ∧ I (i + 1) s') ∧ ∀ r, f L[i] s = .inr r → step (emb i s) = some (.inr r))
    (h2 : ∀ s, I L.length s → step (emb L.length s) = some (.inr (fin s))) : ∀ (d i : Nat) s n, i + d = L.length → d < n → I i s → iter step n (emb i s) = some (scan f fin (L.drop i) s)
  | 0, i, s, n, he, hn, hI => by
    obtain ⟨m, rfl⟩ : ∃ m, n = m + 1 := ⟨n - 1, by omega⟩
    have e : i = L.length := by omega
    subst e
    rw [iter, h2 s hI, List.drop_length]; rfl
  | d + 1, i, s, n, he, hn, hI => by
    obtain ⟨m, rfl⟩ : ∃ m, n = m + 1 := ⟨n - 1, by omega⟩
    have hi : i < L.length := by omega
    obtain ⟨g1, g2⟩ := h1 i s hi hI
    rw [iter, List.drop_eq_getElem_cons hi, scan]
    cases hf : f L[i] s with
    | inl s' =>
      obtain ⟨e1, e2⟩ := g1 s' hf
      rw [e1]
      exact iter_scan L f fin emb step I h1 h2 d (i + 1) s' m (by omega) (by omega) e2
    | inr r => rw [g2 r hf]
theorem iter_scan0 {α σ ρ S : Type} (L : List α) (f : α → σ → Sum σ ρ) (fin : σ → ρ) (emb : Nat → σ → S) (step : S → Option (Sum S ρ)) (I : Nat → σ → Prop)
    (h1 : ∀ i s (hi : i < L.length), I i s → (∀ s', f L[i] s = .inl s' → step (emb i s) = some (.inl (emb (i + 1) s')) ∧ I (i + 1) s') ∧ ∀ r, f L[i] s = .inr r → step (emb i s) = some (.inr r))
    (h2 : ∀ s, I L.length s → step (emb L.length s) = some (.inr (fin s))) {s : σ} (hl : L.length < 2 ^ 60) (hI : I 0 s) {x : S} (hx : x = emb 0 s) : iter step FUEL x = some (scan f fin L s) := by
  subst hx
  have := iter_scan L f fin emb step I h1 h2 L.length 0 s FUEL (by omega) (by rw [FUEL_eq]; omega) hI
  rwa [List.drop_zero] at this
def bkOK (b : api_Backend) (last top : Int) : Bool := decide (last < b.ID ∧ b.ID ≤ top ∧ 0 ≤ b.Weight ∧ b.Weight ≤ 1000 ∧ (b.State = 1 ∨ b.State = 3)) && adr b.Addr
def chn (top : Int) : List api_Backend → Int → Bool := scan (fun b last => if bkOK b last top = true then .inl b.ID else .inr false) (fun _ => true)
def rightB (r : saved_Record) : Bool := decide (0 ≤ r.Last ∧ r.Last ≤ 65535 ∧ r.L.length ≤ 64) && chn r.Last r.L 0
theorem pright_eq (r : saved_Record) : saved_Right r = some (rightB r) := by
  unfold saved_Right saved_RightF rightB
  by_cases h1 : r.Last ≥ 0
  · rw [cond_p h1]
    by_cases h2 : r.Last ≤ 65535
    · rw [cond_p h2]
      by_cases h3 : (r.L.length : Int) ≤ 64
      · rw [cond_p h3, decide_eq_true ⟨h1, h2, by omega⟩, Bool.true_and]
        refine iter_scan0 r.L _ _ (fun i (s : Int) => ((i : Int), s)) _ (fun _ _ => True) ?_ ?_ (by omega) trivial rfl
        · intro i s hi _
          dsimp only
          have key : saved_Right_s1 addr_Right r i s = if bkOK r.L[i] s r.Last = true then some (.inl (((i + 1 : Nat) : Int), (r.L[i]).ID)) else some (.inr false) := by
            unfold saved_Right_s1 bkOK
            rw [cond_p (by omega), oreq_p (by omega), Int.toNat_natCast, List.getElem?_eq_getElem hi, Option.bind_some, decide_eq_true (show (i : Int) ≥ 0 by omega), wI64 (by omega) (by omega), tuRight_eq, show ((i + 1 : Nat) : Int) = (i : Int) + 1 by omega]
            simp only [Bool.not_true, Option.bind_some]
            generalize r.L[i] = b
            by_cases c1 : b.ID ≤ s
            · rw [cond_p c1, cond_p c1, decide_eq_false (by omega)]
              cases b.State == 1 <;> rfl
            rw [cond_n c1, cond_n c1]
            by_cases c2 : b.ID > r.Last
            · rw [cond_p c2, cond_p c2, decide_eq_false (by omega)]
              cases b.State == 1 <;> rfl
            rw [cond_n c2, cond_n c2]
            by_cases c3 : b.Weight < 0
            · rw [cond_p c3, cond_p c3, decide_eq_false (by omega)]
              cases b.State == 1 <;> rfl
            rw [cond_n c3, cond_n c3]
            by_cases c4 : b.Weight > 1000
            · rw [cond_p c4, cond_p c4, decide_eq_false (by omega)]
              cases b.State == 1 <;> rfl
            rw [cond_n c4, cond_n c4]
            by_cases c5 : b.State = 1
            · rw [show (b.State == 1) = true from by simpa using c5, cond_true, decide_eq_true (by omega)]
              cases adr b.Addr <;> rfl
            · rw [show (b.State == 1) = false from by simpa using c5, cond_false]
              by_cases c6 : b.State = 3
              · rw [show (b.State == 3) = true from by simpa using c6, decide_eq_true (by omega)]
                cases adr b.Addr <;> rfl
              · rw [show (b.State == 3) = false from by simpa using c6, decide_eq_false (by omega)]; rfl
          rw [key]
          cases bkOK r.L[i] s r.Last with
          | true => exact ⟨fun s' e => (by cases e; exact ⟨rfl, trivial⟩), fun q e => (by cases e)⟩
          | false => exact ⟨fun s' e => (by cases e), fun q e => (by cases e; rfl)⟩
        · intro s _
          dsimp only
          unfold saved_Right_s1
          rw [cond_n (by omega)]
      · rw [cond_n h3, decide_eq_false (by omega)]; rfl
    · rw [cond_n h2, decide_eq_false (by omega)]; rfl
  · rw [cond_n h1, decide_eq_false (by omega)]; rfl
theorem rright55_eq (r : saved_Record) : R55_Right r = some (rightB r) := by
  unfold R55_Right R55_RightF rightB
  by_cases h1 : r.Last < 0
  · rw [cond_p h1, decide_eq_false (by omega)]; rfl
  rw [cond_n h1]
  by_cases h2 : r.Last > 65535
  · rw [cond_p h2, decide_eq_false (by omega)]; rfl
  rw [cond_n h2]
  by_cases h3 : (r.L.length : Int) > 64
  · rw [cond_p h3, decide_eq_false (by omega)]; rfl
  rw [cond_n h3, decide_eq_true (by omega), Bool.true_and]
  refine iter_scan0 r.L _ _ (fun i (s : Int) => (s, (i : Int))) _ (fun _ _ => True) ?_ ?_ (by omega) trivial rfl
  · intro i s hi _
    dsimp only
    have key : R55_Right_s1 R04_Right r s i = if bkOK r.L[i] s r.Last = true then some (.inl ((r.L[i]).ID, ((i + 1 : Nat) : Int))) else some (.inr false) := by
      unfold R55_Right_s1 bkOK
      rw [cond_p (by omega), oreq_p (by omega), Int.toNat_natCast, List.getElem?_eq_getElem hi, Option.bind_some, wI64 (by omega) (by omega), raRight_eq, show ((i + 1 : Nat) : Int) = (i : Int) + 1 by omega]
      simp only [Option.bind_some]
      generalize r.L[i] = b
      by_cases c1 : b.ID ≤ s
      · rw [cond_p c1, decide_eq_false (by omega)]; rfl
      rw [cond_n c1]
      by_cases c2 : b.ID > r.Last
      · rw [cond_p c2, decide_eq_false (by omega)]; rfl
      rw [cond_n c2]
      by_cases c3 : b.Weight < 0
      · rw [cond_p c3, decide_eq_false (by omega)]; rfl
      rw [cond_n c3]
      by_cases c4 : b.Weight > 1000
      · rw [cond_p c4, decide_eq_false (by omega)]; rfl
      rw [cond_n c4]
      by_cases c5 : b.State = 1
      · rw [show (b.State != 1) = false from by simpa using c5, cond_false, decide_eq_true (by omega)]
        cases adr b.Addr <;> rfl
      · rw [show (b.State != 1) = true from by simpa using c5, cond_true]
        by_cases c6 : b.State = 3
        · rw [show (b.State != 3) = false from by simpa using c6, decide_eq_true (by omega)]
          cases adr b.Addr <;> rfl
        · rw [show (b.State != 3) = true from by simpa using c6, decide_eq_false (by omega)]; rfl
    rw [key]
    cases bkOK r.L[i] s r.Last with
    | true => exact ⟨fun s' e => (by cases e; exact ⟨rfl, trivial⟩), fun q e => (by cases e)⟩
    | false => exact ⟨fun s' e => (by cases e), fun q e => (by cases e; rfl)⟩
  · intro s _
    dsimp only
    unfold R55_Right_s1
    rw [cond_n (by omega)]
def hash12 (s : List UInt8) : Int := hashR tak finQ s.length (newV ⟨1, 2⟩).s s
theorem hash12_rng (s : List UInt8) : 0 ≤ hash12 s ∧ hash12 s < 2 ^ 64 := hashR_rng tak finQ finQ_rng _ _ _ _ (Nat.le_refl _)
def sealS (s : List UInt8) : List UInt8 := be (hash12 s).toNat 8
theorem sealS_len (s : List UInt8) : (sealS s).length = 8 := by simp [sealS]
theorem pseal_eq {s : List UInt8} (h : s.length < 2 ^ 40) : saved_seal s = some (sealS s) := by
  unfold saved_seal saved_sealF
  rw [Hash_R (by omega), Option.bind_some]
  show (octet_Put (hash12 s) 8).bind _ = _
  rw [octet_Put_eq (hash12_rng s).1, Option.bind_some]
  unfold putS; rw [if_pos (by decide)]; rfl
theorem rseal_eq {s : List UInt8} (h : s.length < 2 ^ 40) : R55_Seal s = some (sealS s) := by
  unfold R55_Seal R55_SealF
  rw [R12_Hash_eq (by omega), Option.bind_some]
  show (R02_Put (hash12 s) 8).bind _ = _
  rw [R02_Put_eq (hash12_rng s).1 (hash12_rng s).2, Option.bind_some]
  unfold putS; rw [if_pos (by decide)]; rfl
def encB (b : api_Backend) : List UInt8 := be b.ID.toNat 2 ++ be b.Weight.toNat 2 ++ be b.State.toNat 1 ++ be (adB b.Addr).length 1 ++ adB b.Addr
def encH (r : saved_Record) : List UInt8 := [67, 76, 75, 49] ++ be r.Key.A.toNat 8 ++ be r.Key.B.toNat 8 ++ be r.Last.toNat 2 ++ be r.L.length 1
def body (r : saved_Record) : List UInt8 := encH r ++ r.L.flatMap encB
end Go.Vm.Code
namespace Go.Vm.Code
open Go Go.Vm Go.Proofs
set_option maxRecDepth 100000
set_option maxHeartbeats 4000000
set_option linter.unusedVariables false
def addr_GetF (octet_Get : (List UInt8) → Int → Int → Option (Int × Bool)) (s : List UInt8) : Option (api_Addr × Bool) :=
  cond ((s.length : Int) == 4)
    (
    (octet_Get s 0 4).bind fun xg =>
    some ((api_Addr.mk false 0 xg.1, true)))
    (
    cond ((s.length : Int) == 16)
      (
      (octet_Get s 0 8).bind fun xg1 =>
      (octet_Get s 8 8).bind fun xg2 =>
      some ((api_Addr.mk true xg1.1 xg2.1, true)))
      (
      some ((api_Addr.mk false 0 0, false))))
def rx138 (x : api_Addr × Bool) : SRes := ⟨.tuple ⟨[.agg ⟨[.bool x.1.V6, .int .u64 x.1.Hi, .int .u64 x.1.Lo]⟩, .bool x.2]⟩, [], []⟩
def r138 (g : (List UInt8) → Option (api_Addr × Bool)) : Dec := dV asS fun (y0 : List UInt8) => dEnd (ofG (g y0) rx138)
theorem r138_c {g : (List UInt8) → Option (api_Addr × Bool)} {y0 : List UInt8} {x : api_Addr × Bool} (hx : g y0 = some x) : r138 g [.string ⟨⟨y0⟩⟩] [] = some (rx138 x) := (dV_eq (asS_c)).trans (ofG_eq hx)
def s138 (g : (List UInt8) → Option (api_Addr × Bool)) : Summ := ⟨[.v], r138 g⟩
theorem r138_eq {g : (List UInt8) → Option (api_Addr × Bool)} {y0 : List UInt8} {x : api_Addr × Bool} (hx : g y0 = some x) : (s138 g).run [.string ⟨⟨y0⟩⟩] [] = some (rx138 x) := r138_c hx
abbrev sums138 (octet_Get : (List UInt8) → Int → Int → Option (Int × Bool)) : List (Nat × Summ) := [(99, s99 octet_Get)]
theorem leads138 (octet_Get : (List UInt8) → Int → Int → Option (Int × Bool)) (hS : SumsOK Try.prog (aget (sums138 octet_Get))) (s : List UInt8) (res : api_Addr × Bool) (h : addr_GetF octet_Get s = some res) :
    Leads Try.prog 138 0 ⟨⟨138, 35, [(0, .string ⟨⟨s⟩⟩)], [.code k138_25], [], false, none⟩, [], [], 0⟩ (fun v H _ => Res 0 (rx138 res) v H) := by
  unfold addr_GetF at h
  refine ev_ok tab_ok hS true 3000 ?_
  conv => whnf
  refine br.h h ?_ ?_ ?_
  · rfl
  · clear h; intro hb h; conv => whnf
    replace h := obind.elim h; obtain ⟨xg, hy, h⟩ := h
    refine sumK.q rfl rfl (r99_eq hy) rfl rfl rfl ?_
    conv => whnf
    all_goals (cases h; exact Res.z rfl rfl rfl)
  clear h; intro hb h; conv => whnf
  refine br.h2 h ?_ ?_ ?_
  · rfl
  · clear h; intro hb h; conv => whnf
    all_goals (cases h; exact Res.z rfl rfl rfl)
  clear h; intro hb h; conv => whnf
  replace h := obind.elim h; obtain ⟨xg1, hy, h⟩ := h
  refine sumK.q rfl rfl (r99_eq hy) rfl rfl rfl ?_
  conv => whnf
  replace h := obind.elim h; obtain ⟨xg2, hy, h⟩ := h
  refine sumK.q rfl rfl (r99_eq hy) rfl rfl rfl ?_
  conv => whnf
  all_goals (cases h; exact Res.z rfl rfl rfl)
theorem ok138 (octet_Get : (List UInt8) → Int → Int → Option (Int × Bool)) (hS : SumsOK Try.prog (aget (sums138 octet_Get))) : SumOK Try.prog 138 (s138 (addr_GetF octet_Get)) := by
  refine SumOK.of_leads tab_ok (fun ar os r ha hr => ?_) ⟨Try.f138, rfl, by decide, rfl⟩
  replace hr : r138 (addr_GetF octet_Get) ar (conts os) = some r := hr
  unfold r138 at hr
  generalize hc : conts os = C at hr
  replace hr := dV.elim hr; obtain ⟨v0, l1, y0, rfl, e0, hr⟩ := hr; obtain rfl := asS_eq _ _ e0
  replace hr := dFin hr; obtain ⟨rfl, rfl, x, h, rfl⟩ := hr
  obtain rfl := kinds_nil hc
  exact ⟨_, rfl, leads138 octet_Get hS _ x h⟩
def addr_Get : (List UInt8) → Option (api_Addr × Bool) := addr_GetF octet_Get
theorem lift138 : SumOK Try.prog 138 (s138 addr_Get) := ok138 octet_Get (SumsOK.of_tab ⟨lift99, trivial⟩)
def saved_backendF (addr_Get : (List UInt8) → Option (api_Addr × Bool)) (octet_Reader_Num : octet_Reader → Int → Option (Int × octet_Reader)) (octet_Reader_Text : octet_Reader → Int → Option ((List UInt8) × octet_Reader)) (ra0 : octet_Reader) : Option (api_Backend × Bool × octet_Reader) :=
  (octet_Reader_Num ra0 2).bind fun n =>
  (octet_Reader_Num n.2 2).bind fun n1 =>
  (octet_Reader_Num n1.2 1).bind fun n2 =>
  (octet_Reader_Num n2.2 1).bind fun n3 =>
  (octet_Reader_Text n3.2 n3.1).bind fun t =>
  (addr_Get t.1).bind fun xg =>
  some ((api_Backend.mk n.1 n1.1 n2.1 xg.1, xg.2, t.2))
def rx101 (x : api_Backend × Bool × octet_Reader) : SRes := ⟨.tuple ⟨[.agg ⟨[.int .i64 x.1.ID, .int .i64 x.1.Weight, .int .i64 x.1.State, .bool x.1.Addr.V6, .int .u64 x.1.Addr.Hi, .int .u64 x.1.Addr.Lo]⟩, .bool x.2.1]⟩, [], [some [.string ⟨⟨x.2.2.s⟩⟩, .bool x.2.2.made, .bool x.2.2.bad]]⟩
def r101 (g : octet_Reader → Option (api_Backend × Bool × octet_Reader)) : Dec := dPt 0 unoctet_Reader fun (y0 : octet_Reader) => dEnd (ofG (g y0) rx101)
theorem r101_c {g : octet_Reader → Option (api_Backend × Bool × octet_Reader)} {y0 : octet_Reader} {x : api_Backend × Bool × octet_Reader} (hx : g y0 = some x) : r101 g [.pointer (some ⟨0, 0, none⟩)] [some [.string ⟨⟨y0.s⟩⟩, .bool y0.made, .bool y0.bad]] = some (rx101 x) := (dPt_eq (unoctet_Reader_c _)).trans (ofG_eq hx)
def s101 (g : octet_Reader → Option (api_Backend × Bool × octet_Reader)) : Summ := ⟨[.pt 3], r101 g⟩
theorem r101_eq {g : octet_Reader → Option (api_Backend × Bool × octet_Reader)} {y0 : octet_Reader} {x : api_Backend × Bool × octet_Reader} (hx : g y0 = some x) : (s101 g).run [.pointer (some ⟨0, 0, none⟩)] [some [.string ⟨⟨y0.s⟩⟩, .bool y0.made, .bool y0.bad]] = some (rx101 x) := r101_c hx
abbrev sums101 (addr_Get : (List UInt8) → Option (api_Addr × Bool)) (octet_Reader_Num : octet_Reader → Int → Option (Int × octet_Reader)) (octet_Reader_Text : octet_Reader → Int → Option ((List UInt8) × octet_Reader)) : List (Nat × Summ) := [(138, s138 addr_Get), (100, s100 octet_Reader_Num), (97, s97 octet_Reader_Text)]
theorem leads101 (addr_Get : (List UInt8) → Option (api_Addr × Bool)) (octet_Reader_Num : octet_Reader → Int → Option (Int × octet_Reader)) (octet_Reader_Text : octet_Reader → Int → Option ((List UInt8) × octet_Reader)) (hS : SumsOK Try.prog (aget (sums101 addr_Get octet_Reader_Num octet_Reader_Text))) (ra0 : octet_Reader) (res : api_Backend × Bool × octet_Reader) (h : saved_backendF addr_Get octet_Reader_Num octet_Reader_Text ra0 = some res) :
    Leads Try.prog 101 1 ⟨⟨101, 26, [(0, .pointer (some ⟨0, 0, none⟩))], [.code k101_9], [], false, none⟩, [], [(0, .cells [.string ⟨⟨ra0.s⟩⟩, .bool ra0.made, .bool ra0.bad])], 1⟩ (fun v H _ => Res 1 (rx101 res) v H) := by
  unfold saved_backendF at h
  refine ev_ok tab_ok hS true 3000 ?_
  conv => whnf
  replace h := obind.elim h; obtain ⟨n, hy, h⟩ := h
  refine sumK.introF [0] (sumRun_of (aqs := [.pointer (some ⟨0, 0, none⟩), .int .i64 2]) (ws := [.win 0 0 3 true]) (n := 0) (m := 0) (t' := 2) (ra_cons rfl rfl (ra_cons rfl rfl ra_nil)) rfl (by rfl) (r100_eq hy) rfl rfl rfl rfl (wb_win rfl rfl rfl ⟨rfl, Nat.le_of_ble_eq_true rfl⟩ rfl rfl wb_nil) an_nil rfl) ?_
  conv => whnf
  replace h := obind.elim h; obtain ⟨n1, hy, h⟩ := h
  refine sumK.introF [0] (sumRun_of (aqs := [.pointer (some ⟨0, 0, none⟩), .int .i64 2]) (ws := [.win 0 0 3 true]) (n := 0) (m := 0) (t' := 2) (ra_cons rfl rfl (ra_cons rfl rfl ra_nil)) rfl (by rfl) (r100_eq hy) rfl rfl rfl rfl (wb_win rfl rfl rfl ⟨rfl, Nat.le_of_ble_eq_true rfl⟩ rfl rfl wb_nil) an_nil rfl) ?_
  conv => whnf
  replace h := obind.elim h; obtain ⟨n2, hy, h⟩ := h
  refine sumK.introF [0] (sumRun_of (aqs := [.pointer (some ⟨0, 0, none⟩), .int .i64 1]) (ws := [.win 0 0 3 true]) (n := 0) (m := 0) (t' := 2) (ra_cons rfl rfl (ra_cons rfl rfl ra_nil)) rfl (by rfl) (r100_eq hy) rfl rfl rfl rfl (wb_win rfl rfl rfl ⟨rfl, Nat.le_of_ble_eq_true rfl⟩ rfl rfl wb_nil) an_nil rfl) ?_
  conv => whnf
  replace h := obind.elim h; obtain ⟨n3, hy, h⟩ := h
  refine sumK.introF [0] (sumRun_of (aqs := [.pointer (some ⟨0, 0, none⟩), .int .i64 1]) (ws := [.win 0 0 3 true]) (n := 0) (m := 0) (t' := 3) (ra_cons rfl rfl (ra_cons rfl rfl ra_nil)) rfl (by rfl) (r100_eq hy) rfl rfl rfl rfl (wb_win rfl rfl rfl ⟨rfl, Nat.le_of_ble_eq_true rfl⟩ rfl rfl wb_nil) an_nil rfl) ?_
  conv => whnf
  replace h := obind.elim h; obtain ⟨t, hy, h⟩ := h
  refine sumK.introF [0] (sumRun_of (aqs := [.pointer (some ⟨0, 0, none⟩), .int .i64 n3.1]) (ws := [.win 0 0 3 true]) (n := 0) (m := 0) (t' := 3) (ra_cons rfl rfl (ra_cons rfl rfl ra_nil)) rfl (by rfl) (r97_eq hy) rfl rfl rfl rfl (wb_win rfl rfl rfl ⟨rfl, Nat.le_of_ble_eq_true rfl⟩ rfl rfl wb_nil) an_nil rfl) ?_
  conv => whnf
  replace h := obind.elim h; obtain ⟨xg, hy, h⟩ := h
  refine sumK.q rfl rfl (r138_eq hy) rfl rfl rfl ?_
  conv => whnf
  all_goals (cases h)
  all_goals exact Res.of [] rfl nw_0 (by decide) js_0 (wr_s (rfl) (hs_cells rfl) wr_0)
theorem ok101 (addr_Get : (List UInt8) → Option (api_Addr × Bool)) (octet_Reader_Num : octet_Reader → Int → Option (Int × octet_Reader)) (octet_Reader_Text : octet_Reader → Int → Option ((List UInt8) × octet_Reader)) (hS : SumsOK Try.prog (aget (sums101 addr_Get octet_Reader_Num octet_Reader_Text))) : SumOK Try.prog 101 (s101 (saved_backendF addr_Get octet_Reader_Num octet_Reader_Text)) := by
  refine SumOK.of_leads tab_ok (fun ar os r ha hr => ?_) ⟨Try.f101, rfl, by decide, rfl⟩
  replace hr : r101 (saved_backendF addr_Get octet_Reader_Num octet_Reader_Text) ar (conts os) = some r := hr
  unfold r101 at hr
  generalize hc : conts os = C at hr
  have hq := dPt.elim hr; clear hr; obtain ⟨c0, l1, C, y0, rfl, rfl, e0, hr⟩ := hq; obtain rfl := unoctet_Reader_eq _ _ e0
  replace hr := dFin hr; obtain ⟨rfl, rfl, x, h, rfl⟩ := hr
  obtain ⟨os, rfl, ha, hc⟩ := kinds_some ha hc
  obtain rfl := kinds_nil hc
  exact ⟨_, rfl, leads101 addr_Get octet_Reader_Num octet_Reader_Text hS _ x h⟩
def saved_backend : octet_Reader → Option (api_Backend × Bool × octet_Reader) := saved_backendF addr_Get octet_Reader_Num octet_Reader_Text
theorem lift101 : SumOK Try.prog 101 (s101 saved_backend) := ok101 addr_Get octet_Reader_Num octet_Reader_Text (SumsOK.of_tab ⟨lift138, lift100, lift97, trivial⟩)
def octet_Reader_RestF (octet_Reader_Bad : octet_Reader → Option (Bool × octet_Reader)) (octet_Reader_Text : octet_Reader → Int → Option ((List UInt8) × octet_Reader)) (ra0 : octet_Reader) : Option ((List UInt8) × octet_Reader) :=
  (octet_Reader_Bad ra0).bind fun b =>
  cond (b.1)
    (
    some (([], b.2)))
    (
    (octet_Reader_Text b.2 (b.2.s.length : Int)).bind fun t =>
    some ((t.1, t.2)))
def rx103 (x : (List UInt8) × octet_Reader) : SRes := ⟨.string ⟨⟨x.1⟩⟩, [], [some [.string ⟨⟨x.2.s⟩⟩, .bool x.2.made, .bool x.2.bad]]⟩
def r103 (g : octet_Reader → Option ((List UInt8) × octet_Reader)) : Dec := dPt 0 unoctet_Reader fun (y0 : octet_Reader) => dEnd (ofG (g y0) rx103)
theorem r103_c {g : octet_Reader → Option ((List UInt8) × octet_Reader)} {y0 : octet_Reader} {x : (List UInt8) × octet_Reader} (hx : g y0 = some x) : r103 g [.pointer (some ⟨0, 0, none⟩)] [some [.string ⟨⟨y0.s⟩⟩, .bool y0.made, .bool y0.bad]] = some (rx103 x) := (dPt_eq (unoctet_Reader_c _)).trans (ofG_eq hx)
def s103 (g : octet_Reader → Option ((List UInt8) × octet_Reader)) : Summ := ⟨[.pt 3], r103 g⟩
theorem r103_eq {g : octet_Reader → Option ((List UInt8) × octet_Reader)} {y0 : octet_Reader} {x : (List UInt8) × octet_Reader} (hx : g y0 = some x) : (s103 g).run [.pointer (some ⟨0, 0, none⟩)] [some [.string ⟨⟨y0.s⟩⟩, .bool y0.made, .bool y0.bad]] = some (rx103 x) := r103_c hx
abbrev sums103 (octet_Reader_Bad : octet_Reader → Option (Bool × octet_Reader)) (octet_Reader_Text : octet_Reader → Int → Option ((List UInt8) × octet_Reader)) : List (Nat × Summ) := [(102, s102 octet_Reader_Bad), (97, s97 octet_Reader_Text)]
theorem leads103 (octet_Reader_Bad : octet_Reader → Option (Bool × octet_Reader)) (octet_Reader_Text : octet_Reader → Int → Option ((List UInt8) × octet_Reader)) (hS : SumsOK Try.prog (aget (sums103 octet_Reader_Bad octet_Reader_Text))) (ra0 : octet_Reader) (res : (List UInt8) × octet_Reader) (h : octet_Reader_RestF octet_Reader_Bad octet_Reader_Text ra0 = some res) :
    Leads Try.prog 103 1 ⟨⟨103, 12, [(0, .pointer (some ⟨0, 0, none⟩))], [.code k103_9], [], false, none⟩, [], [(0, .cells [.string ⟨⟨ra0.s⟩⟩, .bool ra0.made, .bool ra0.bad])], 1⟩ (fun v H _ => Res 1 (rx103 res) v H) := by
  unfold octet_Reader_RestF at h
  refine ev_ok tab_ok hS true 3000 ?_
  conv => whnf
  replace h := obind.elim h; obtain ⟨b, hy, h⟩ := h
  refine sumK.introF [0] (sumRun_of (aqs := [.pointer (some ⟨0, 0, none⟩)]) (ws := [.win 0 0 3 true]) (n := 0) (m := 0) (t' := 1) (ra_cons rfl rfl ra_nil) rfl (by rfl) (r102_eq hy) rfl rfl rfl rfl (wb_win rfl rfl rfl ⟨rfl, Nat.le_of_ble_eq_true rfl⟩ rfl rfl wb_nil) an_nil rfl) ?_
  conv => whnf
  refine br.h h ?_ ?_ ?_
  · rfl
  · clear h; intro hb h; conv => whnf
    all_goals (cases h)
    all_goals exact Res.of [] rfl nw_0 (by decide) js_0 (wr_s (rfl) (hs_cells rfl) wr_0)
  clear h; intro hb h; conv => whnf
  replace h := obind.elim h; obtain ⟨t, hy, h⟩ := h
  refine sumK.introF [0] (sumRun_of (aqs := [.pointer (some ⟨0, 0, none⟩), .int .i64 (b.2.s.length : Int)]) (ws := [.win 0 0 3 true]) (n := 0) (m := 0) (t' := 1) (ra_cons rfl rfl (ra_cons rfl rfl ra_nil)) rfl (by rfl) (r97_eq hy) rfl rfl rfl rfl (wb_win rfl rfl rfl ⟨rfl, Nat.le_of_ble_eq_true rfl⟩ rfl rfl wb_nil) an_nil rfl) ?_
  conv => whnf
  all_goals (cases h)
  all_goals exact Res.of [] rfl nw_0 (by decide) js_0 (wr_s (rfl) (hs_cells rfl) wr_0)
theorem ok103 (octet_Reader_Bad : octet_Reader → Option (Bool × octet_Reader)) (octet_Reader_Text : octet_Reader → Int → Option ((List UInt8) × octet_Reader)) (hS : SumsOK Try.prog (aget (sums103 octet_Reader_Bad octet_Reader_Text))) : SumOK Try.prog 103 (s103 (octet_Reader_RestF octet_Reader_Bad octet_Reader_Text)) := by
  refine SumOK.of_leads tab_ok (fun ar os r ha hr => ?_) ⟨Try.f103, rfl, by decide, rfl⟩
  replace hr : r103 (octet_Reader_RestF octet_Reader_Bad octet_Reader_Text) ar (conts os) = some r := hr
  unfold r103 at hr
  generalize hc : conts os = C at hr
  have hq := dPt.elim hr; clear hr; obtain ⟨c0, l1, C, y0, rfl, rfl, e0, hr⟩ := hq; obtain rfl := unoctet_Reader_eq _ _ e0
  replace hr := dFin hr; obtain ⟨rfl, rfl, x, h, rfl⟩ := hr
  obtain ⟨os, rfl, ha, hc⟩ := kinds_some ha hc
  obtain rfl := kinds_nil hc
  exact ⟨_, rfl, leads103 octet_Reader_Bad octet_Reader_Text hS _ x h⟩
def octet_Reader_Rest : octet_Reader → Option ((List UInt8) × octet_Reader) := octet_Reader_RestF octet_Reader_Bad octet_Reader_Text
theorem lift103 : SumOK Try.prog 103 (s103 octet_Reader_Rest) := ok103 octet_Reader_Bad octet_Reader_Text (SumsOK.of_tab ⟨lift102, lift97, trivial⟩)
end Go.Vm.Code
