/-
  The plans of the regions of open order (printed by plans.py, a program of ours).
-/
import Derived.Test.YtcgkeepihinegaaSxK
set_option linter.unusedVariables false
namespace Go.Proofs.Ytcgkeepihinegaa
open Go.Sx
def pP3_5 : List (Nat × PS) := [(0, .quiet), (2, .quiet), (1, .keep), (3, .keep), (4, .keep), (5, .pure), (6, .pure), (7, .pure), (8, .keep), (9, .last), (10, .last)]
def pP3_9 : List (Nat × PS) := [(0, .quiet), (2, .quiet), (1, .keep), (3, .keep), (4, .pure), (5, .pure), (6, .pure), (7, .pure), (8, .pure), (9, .pure), (10, .quiet), (12, .pure), (13, .quiet), (15, .quiet), (16, .pure), (17, .quiet), (11, .keep), (14, .keep), (18, .keep), (19, .pure), (20, .pure), (21, .pure), (22, .quiet), (23, .quiet), (24, .pure), (25, .pure), (26, .pure), (27, .pure), (28, .pure), (29, .pure), (30, .pure), (31, .pure)]
def pP4_8 : List (Nat × PS) := [(0, .quiet), (1, .pure), (2, .pure), (3, .pure), (4, .quiet), (5, .keep), (6, .keep), (7, .pure), (8, .pure), (9, .pure), (10, .keep), (11, .last), (12, .last)]
def pP4_9 : List (Nat × PS) := [(0, .quiet), (1, .pure), (2, .pure), (3, .pure), (4, .quiet), (5, .keep), (6, .pure), (7, .pure), (8, .pure), (9, .keep), (10, .last), (11, .last)]
def pP4_14 : List (Nat × PS) := [(0, .pure), (1, .pure), (2, .pure), (3, .pure), (4, .quiet), (6, .quiet), (5, .keep), (7, .keep), (8, .pure), (9, .pure), (10, .pure), (11, .quiet), (12, .quiet), (13, .pure), (14, .pure), (15, .pure), (16, .pure), (17, .pure), (18, .pure), (19, .pure)]
def pP5_10 : List (Nat × PS) := [(0, .quiet), (1, .pure), (2, .pure), (3, .pure), (4, .quiet), (5, .keep), (6, .keep), (7, .pure), (8, .pure), (9, .pure), (10, .keep), (11, .last), (12, .last)]
def pP5_11 : List (Nat × PS) := [(0, .pure), (1, .pure), (2, .pure), (3, .quiet), (5, .quiet), (4, .keep), (6, .keep), (7, .keep), (8, .pure), (9, .pure)]
def pP6_3 : List (Nat × PS) := [(0, .quiet), (1, .pure), (2, .quiet), (3, .pure), (4, .keep), (5, .keep), (6, .fresh), (7, .last)]
def pP6_9 : List (Nat × PS) := [(0, .quiet), (1, .quiet), (2, .keep), (3, .keep), (4, .pure), (5, .pure), (6, .pure), (7, .last)]
def pP6_11 : List (Nat × PS) := [(0, .pure), (1, .quiet), (2, .pure), (3, .pure), (4, .quiet), (5, .keep), (6, .keep), (7, .pure)]
def pP6_16 : List (Nat × PS) := [(0, .quiet), (1, .quiet), (2, .keep), (3, .keep), (4, .pure), (5, .pure), (6, .pure), (7, .last)]
def pP6_17 : List (Nat × PS) := [(0, .quiet), (1, .quiet), (2, .keep), (3, .keep), (4, .pure), (5, .pure), (6, .pure), (7, .last)]
def pP7_3 : List (Nat × PS) := [(0, .pure), (1, .quiet), (2, .pure), (3, .quiet), (4, .keep), (5, .keep), (6, .fresh), (7, .last)]
def pP7_8 : List (Nat × PS) := [(0, .quiet), (1, .pure), (2, .pure), (3, .pure), (4, .quiet), (5, .keep), (6, .keep), (7, .pure), (8, .pure), (9, .pure), (10, .keep), (11, .last), (12, .last)]
def pP7_10 : List (Nat × PS) := [(0, .quiet), (1, .pure), (2, .pure), (3, .pure), (4, .quiet), (5, .keep), (6, .keep), (7, .pure), (8, .pure), (9, .pure), (10, .keep), (11, .last), (12, .last)]
def pP7_11 : List (Nat × PS) := [(0, .pure), (1, .pure), (2, .pure), (3, .quiet), (4, .pure), (5, .pure), (6, .pure), (7, .pure), (8, .quiet), (10, .pure), (11, .pure), (12, .pure), (13, .pure), (14, .quiet), (9, .keep), (15, .keep), (16, .pure), (17, .pure)]
def pP7_14 : List (Nat × PS) := [(0, .quiet), (1, .quiet), (3, .quiet), (4, .quiet), (2, .keep), (5, .keep), (6, .pure), (7, .pure)]
def pP10_5 : List (Nat × PS) := [(0, .pure), (1, .quiet), (2, .quiet), (3, .keep), (4, .keep), (5, .last), (6, .last), (7, .last)]
def pP12_10 : List (Nat × PS) := [(0, .pure), (1, .quiet), (2, .pure), (3, .pure), (4, .pure), (5, .quiet), (6, .pure), (7, .quiet), (8, .pure)]
def pP12_12 : List (Nat × PS) := [(0, .pure), (1, .pure), (2, .pure), (3, .pure), (4, .quiet), (5, .pure), (6, .quiet), (7, .pure), (8, .pure), (9, .pure), (10, .quiet), (11, .pure), (12, .pure)]
def pP15_6 : List (Nat × PS) := [(0, .pure), (1, .quiet), (2, .pure), (3, .pure), (4, .quiet), (5, .pure), (6, .quiet), (7, .pure), (8, .pure), (9, .quiet), (10, .pure)]
def pP18_7 : List (Nat × PS) := [(0, .pure), (1, .quiet), (2, .pure), (3, .pure), (4, .pure), (5, .quiet), (6, .quiet), (7, .pure)]
def pP20_10 : List (Nat × PS) := [(0, .pure), (1, .quiet), (2, .pure), (3, .pure), (4, .quiet), (5, .pure), (6, .quiet), (7, .keep), (8, .pure), (9, .keep), (10, .last)]
def pP25_5 : List (Nat × PS) := [(0, .pure), (1, .pure), (2, .pure), (3, .pure), (4, .pure), (5, .quiet), (6, .pure), (7, .quiet), (8, .keep), (9, .pure), (10, .pure), (11, .pure), (12, .pure), (13, .pure), (14, .pure), (15, .pure), (16, .quiet), (17, .pure), (18, .pure), (19, .pure), (20, .quiet), (21, .quiet), (22, .keep), (23, .pure), (24, .pure), (25, .pure)]
def pP26_5 : List (Nat × PS) := [(0, .pure), (1, .pure), (2, .pure), (3, .pure), (4, .quiet), (5, .quiet), (6, .keep), (7, .pure)]
def pP26_8 : List (Nat × PS) := [(0, .pure), (1, .pure), (2, .pure), (3, .pure), (4, .pure), (5, .pure), (6, .pure), (7, .pure), (8, .pure), (9, .quiet), (10, .quiet), (11, .keep), (12, .pure), (13, .pure), (14, .pure), (15, .pure)]
def pP29_11 : List (Nat × PS) := [(0, .pure), (1, .pure), (2, .pure), (3, .pure), (4, .pure), (5, .pure), (6, .pure), (7, .pure), (8, .last)]
def pP29_15 : List (Nat × PS) := [(0, .pure), (1, .pure), (2, .pure), (3, .pure), (4, .pure), (5, .pure), (6, .pure), (7, .pure), (8, .last)]
def pP30_6 : List (Nat × PS) := [(0, .pure), (1, .pure), (2, .pure), (3, .pure), (4, .pure), (5, .quiet), (6, .pure), (7, .quiet), (8, .keep), (9, .pure), (10, .pure), (11, .pure), (12, .pure), (13, .pure), (14, .pure), (15, .pure), (16, .quiet), (17, .pure), (18, .pure), (19, .pure), (20, .pure), (21, .quiet), (22, .pure), (23, .quiet), (24, .pure), (25, .pure), (26, .pure)]
def pP35_1 : List (Nat × PS) := [(0, .quiet), (1, .pure), (2, .quiet), (5, .quiet), (3, .keep), (4, .keep), (6, .pure), (7, .pure)]
def pP51_1 : List (Nat × PS) := [(0, .pure), (1, .pure), (2, .pure), (3, .pure), (4, .pure), (5, .pure), (6, .pure), (7, .pure), (8, .pure)]
def pP54_3 : List (Nat × PS) := [(0, .pure), (1, .pure), (2, .pure), (3, .pure), (4, .pure), (5, .pure), (6, .pure), (7, .quiet), (8, .pure), (9, .pure), (10, .pure), (11, .quiet), (12, .pure), (13, .last), (14, .last), (15, .last)]
end Go.Proofs.Ytcgkeepihinegaa
