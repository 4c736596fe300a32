/-
  WHAT IS PROVED HERE: what the fixed examples of the statements evaluate to, by the plain evaluator. No condition.
-/
import Derived.Test.YtlkaikopjjmneaaDoorRec5
namespace Go.Proofs.YtlkaikopjjmneaaDoor
open Go.RowKit

def tTitle : ByteArray := ⟨#[116, 105, 116, 108, 101]⟩
def tRain : ByteArray := ⟨#[114, 97, 105, 110, 46, 32, 109, 111, 114, 101]⟩
def tVote : ByteArray := ⟨#[118, 111, 116, 101]⟩
def tLatest : ByteArray := ⟨#[108, 97, 116, 101, 115, 116]⟩
def tX : ByteArray := ⟨#[120]⟩
def tE : ByteArray := ⟨#[]⟩
def nInc : Node := .mk 5 tE tX tE 0 [] [] []
def nTitle : Node := .mk 2 tE tTitle tE 0 [] [] []
def nLoud : Node := .mk 2 tE tTitle tE 0 [⟨#[117, 112, 112, 101, 114]⟩, ⟨#[102, 105, 114, 115, 116]⟩] [] []
def nA : Node := .mk 1 ⟨#[97]⟩ tE tE 0 [] [] []
def nSemi : Node := .mk 1 ⟨#[59]⟩ tE tE 0 [] [] []
def nNo : Node := .mk 1 ⟨#[110, 111]⟩ tE tE 0 [] [] []
def nFor : Node := .mk 3 tE tLatest tE 5 [] [nTitle, nSemi] []
def nIf : Node := .mk 4 tE ⟨#[110, 111, 110, 101]⟩ tE 0 [] [nTitle] [nNo]
def dSane : Dat := { fields := [(4, tTitle, tRain), (2, tTitle, tVote)], lists := [(0, tLatest, tE, [4, 2])], snips := [(tX, [nInc])] }
theorem san1 : (runF (recOps dSane) [nA, nLoud] [] 4).1 = ([97, 82, 65, 73, 78, 46], 0) := by decide +kernel
theorem san2 : (runF (recOps dSane) [nFor] [] 0).1 = ([114, 97, 105, 110, 46, 32, 109, 111, 114, 101, 59, 118, 111, 116, 101, 59], 0) := by decide +kernel
theorem san3 : (runF (recOps dSane) [nIf] [] 0).1 = ([110, 111], 0) := by decide +kernel
theorem san4 : (runF (recOps dSane) [nTitle] [] 0).1 = ([], 110) := by decide +kernel
theorem san5 : (runF (recOps dSane) [nInc] [] 0).1 = ([], 111) := by decide +kernel
theorem san6 : filterF ⟨#[115, 108, 117, 103]⟩ ⟨#[32, 32, 84, 104, 101, 32, 77, 97, 121, 111, 114, 39, 115, 32, 86, 111, 116, 101, 33]⟩ = some [116, 104, 101, 45, 109, 97, 121, 111, 114, 45, 115, 45, 118, 111, 116, 101] := by decide +kernel
theorem san7 : filterF ⟨#[115, 104, 111, 114, 116]⟩ ⟨#[84, 104, 101, 32, 99, 111, 117, 110, 99, 105, 108, 32, 118, 111, 116, 101, 100, 32, 111, 110, 32, 116, 104, 101, 32, 98, 114, 105, 100, 103, 101, 32, 108, 97, 115, 116, 32, 110, 105, 103, 104, 116, 46]⟩ = some [84, 104, 101, 32, 99, 111, 117, 110, 99, 105, 108, 32, 118, 111, 116, 101, 100, 32, 111, 110, 32, 116, 104, 101, 32, 98, 114, 105, 100, 103, 101, 32, 108, 97, 115, 116, 46, 46, 46] := by decide +kernel
theorem san8 : filterF ⟨#[98, 111, 108, 100]⟩ ⟨#[120]⟩ = none := by decide +kernel
end Go.Proofs.YtlkaikopjjmneaaDoor
