/- Play (plain): the known texts. No condition. -/
import Derived.Test.YtjjlodeiejobdaaDoorPyC
namespace Go.Proofs.YtjjlodeiejobdaaDoor
def WK1 : StpV := ⟨6, 0, 0, 0, 0, 0, 0, [], [], [], 0⟩
def WK2 : StpV := ⟨12, 1, 0, 0, 0, 0, 2, [107], [], [118, 32, 119], 0⟩
def WK3 : StpV := ⟨7, 2, 0, -1, 0, 0, 0, [], [], [], 0⟩
def WKT : Bs := [116, 105, 99, 107, 32, 48, 10, 105, 110, 118, 111, 107, 101, 32, 49, 32, 112, 117, 116, 32, 107, 32, 118, 37, 50, 48, 119, 10, 99, 114, 97, 115, 104, 32, 50, 32, 45, 49, 10]
theorem wk_ok : WK1.Ok ∧ WK2.Ok ∧ WK3.Ok := ⟨⟨by decide, by decide, by decide, by decide, by decide, by decide, by decide, by decide⟩, ⟨by decide, by decide, by decide, by decide, by decide, by decide, by decide, by decide⟩, ⟨by decide, by decide, by decide, by decide, by decide, by decide, by decide, by decide⟩⟩
theorem wk_say1 : sayL WK1 = some [116, 105, 99, 107, 32, 48] := by decide +kernel
theorem wk_say2 : sayL WK2 = some [105, 110, 118, 111, 107, 101, 32, 49, 32, 112, 117, 116, 32, 107, 32, 118, 37, 50, 48, 119] := by decide +kernel
theorem wk_say3 : sayL WK3 = some [99, 114, 97, 115, 104, 32, 50, 32, 45, 49] := by decide +kernel
theorem wk_write : wrL [WK1, WK2, WK3] 0 [] = (WKT, 0, 0) := by
  rw [wrL, wk_say1]
  simp only
  rw [wrL, wk_say2]
  simp only
  rw [wrL, wk_say3]
  rfl
theorem wk_parse : prsL (fltB 0 (pcsB 10 ⟨#[35, 32, 115, 111, 10, 10, 116, 105, 99, 107, 32, 48, 10, 105, 110, 118, 111, 107, 101, 32, 49, 32, 112, 117, 116, 32, 107, 32, 118, 37, 50, 48, 119, 10, 99, 114, 97, 115, 104, 32, 50, 32, 45, 49, 10]⟩)) [] = ([WK1, WK2, WK3], 0, 0) := by
  have e : fltB 0 (pcsB 10 ⟨#[35, 32, 115, 111, 10, 10, 116, 105, 99, 107, 32, 48, 10, 105, 110, 118, 111, 107, 101, 32, 49, 32, 112, 117, 116, 32, 107, 32, 118, 37, 50, 48, 119, 10, 99, 114, 97, 115, 104, 32, 50, 32, 45, 49, 10]⟩) = [(3, ⟨#[116, 105, 99, 107, 32, 48]⟩), (4, ⟨#[105, 110, 118, 111, 107, 101, 32, 49, 32, 112, 117, 116, 32, 107, 32, 118, 37, 50, 48, 119]⟩), (5, ⟨#[99, 114, 97, 115, 104, 32, 50, 32, 45, 49]⟩)] := by decide +kernel
  rw [e]
  rw [prsL, show rdL _ = some WK1 from (rd_iff wk_ok.1).2 wk_say1]
  simp only [List.length_nil]
  rw [if_neg (by decide), prsL, show rdL _ = some WK2 from (rd_iff wk_ok.2.1).2 wk_say2]
  simp only [List.nil_append, List.length_singleton]
  rw [if_neg (by decide), prsL, show rdL _ = some WK3 from (rd_iff wk_ok.2.2).2 wk_say3]
  simp only
  rw [if_neg (by decide)]
  rfl
theorem wk_bad : prsL (fltB 0 (pcsB 10 ⟨#[104, 101, 97, 108, 10, 116, 105, 99, 107, 32, 48, 48]⟩)) [] = ([], 2, 4) := by
  have e : fltB 0 (pcsB 10 ⟨#[104, 101, 97, 108, 10, 116, 105, 99, 107, 32, 48, 48]⟩) = [(1, ⟨#[104, 101, 97, 108]⟩), (2, ⟨#[116, 105, 99, 107, 32, 48, 48]⟩)] := by decide +kernel
  rw [e]
  have h1 : ∃ s, rdL [104, 101, 97, 108] = some s := ⟨⟨5, 0, 0, 0, 0, 0, 0, [], [], [], 0⟩, (rd_iff ⟨by decide, by decide, by decide, by decide, by decide, by decide, by decide, by decide⟩).2 (by decide +kernel)⟩
  obtain ⟨s, hs⟩ := h1
  have h2 : rdL [116, 105, 99, 107, 32, 48, 48] = none := by decide +kernel
  rw [prsL, show rdL _ = some s from hs]
  simp only [List.length_nil]
  rw [if_neg (by decide), prsL, show rdL _ = none from h2]
end Go.Proofs.YtjjlodeiejobdaaDoor
