import Derived.Test.YtgkpojcckgbcjaaS8
namespace Go.Vm.Code
open Go Go.Vm Go.Proofs
set_option maxRecDepth 20000
set_option maxHeartbeats 1000000
theorem write_sum (W : HQ → List UInt8 → HQ) {H : Hp} {k top : Nat} {ob ob' : VObj} {h : HQ} {s : ByteArray} (h1 : aget H k = some ob) (h2 : ob.wcs = some (hcells h)) (h3 : ob.wr (hcells (W h s.data.toList)) = some ob')
    (hc : fits h.count s.data.toList.length = true) :
    sumRun (sWrite W) [.pointer (some ⟨k, 0, none⟩), .string s] H top = some (.tuple ⟨[]⟩, aput H k ob', top) := by
  have e1 : readArgs H (sWrite W).modes [.pointer (some ⟨k, 0, none⟩), .string s] = some [.pt (hcells h), .v (.string s)] := by
    simp only [sWrite, readArgs, readArg, h1, h2]
    rfl
  have e2 : (sWrite W).run [.pt (hcells h), .v (.string s)] = some ⟨.tuple ⟨[]⟩, [], [hcells (W h s.data.toList)]⟩ := by
    obtain ⟨⟨a, b, c, d⟩, l, n⟩ := h
    simp only [sWrite, hcells, rWrite]
    simp only at hc
    rw [hc]
  have e3 : wback H (winL (sWrite W).modes [.pointer (some ⟨k, 0, none⟩), .string s]) [hcells (W h s.data.toList)] = some (aput H k ob') := by
    have : winL (sWrite W).modes [.pointer (some ⟨k, 0, none⟩), .string s] = [some ⟨k, 0, 7, true⟩] := rfl
    rw [this]
    simp only [wback, h1, h2]
    rw [if_pos ⟨rfl, rfl⟩, show setAt (hcells h) 0 (hcells (W h s.data.toList)) = hcells (W h s.data.toList) from rfl, h3]
  unfold sumRun
  rw [e1]
  simp only [e2]
  rw [show apartB (winL (sWrite W).modes [.pointer (some ⟨k, 0, none⟩), .string s]) = true from rfl]
  simp only [e3]
  rfl
end Go.Vm.Code
