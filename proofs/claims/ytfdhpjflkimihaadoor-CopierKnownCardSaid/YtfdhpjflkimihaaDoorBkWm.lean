/- The chapters' texts. No conditions. -/
import Derived.Test.YtfdhpjflkimihaaDoorBase
namespace Go.Proofs.YtfdhpjflkimihaaDoor
open Go.RowKit

def m_x16 : List UInt8 := [120, 120, 120, 120, 120, 120, 120, 120, 120, 120, 120, 120, 120, 120, 120, 120]
def m_y16 : List UInt8 := [121, 121, 121, 121, 121, 121, 121, 121, 121, 121, 121, 121, 121, 121, 121, 121]
def m_z16 : List UInt8 := [122, 122, 122, 122, 122, 122, 122, 122, 122, 122, 122, 122, 122, 122, 122, 122]
def m_y8 : List UInt8 := [121, 121, 121, 121, 121, 121, 121, 121]
def m_z8 : List UInt8 := [122, 122, 122, 122, 122, 122, 122, 122]
end Go.Proofs.YtfdhpjflkimihaaDoor
