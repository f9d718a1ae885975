/-
  The plans of the regions of open order (printed by plans.py, a program of ours).
-/
import Derived.Test.YteogjiadmgbmbaaDoorSxK
set_option linter.unusedVariables false
namespace Go.Proofs.YteogjiadmgbmbaaDoor
open Go.Sx
def pP3_5 : List (Nat × PS) := [(0, .quiet), (2, .quiet), (1, .keep), (3, .keep), (4, .pure), (5, .pure), (6, .quiet), (7, .quiet), (8, .pure), (9, .pure), (10, .pure), (11, .pure), (12, .pure), (13, .pure), (14, .pure), (15, .pure)]
def pP4_8 : List (Nat × PS) := [(0, .quiet), (2, .quiet), (1, .keep), (3, .keep), (4, .pure), (5, .pure), (6, .quiet), (7, .quiet), (8, .pure), (9, .pure), (10, .pure), (11, .pure), (12, .pure), (13, .pure), (14, .pure), (15, .pure), (16, .pure), (17, .pure), (18, .pure), (19, .quiet), (20, .pure), (21, .pure), (22, .pure), (23, .pure), (24, .pure), (25, .pure), (26, .pure), (27, .quiet), (28, .quiet), (29, .pure), (30, .pure), (31, .pure), (32, .pure), (33, .pure), (34, .pure), (35, .pure), (36, .quiet), (38, .pure), (37, .keep), (39, .pure), (40, .pure), (41, .pure), (42, .pure)]
def pP5_6 : List (Nat × PS) := [(0, .pure), (1, .quiet), (2, .pure), (3, .quiet), (4, .pure), (5, .pure), (6, .pure), (7, .pure), (8, .quiet), (9, .pure), (10, .quiet), (12, .pure), (13, .quiet), (11, .keep), (14, .pure), (15, .pure), (16, .pure), (17, .pure), (18, .quiet), (19, .pure), (20, .quiet), (22, .pure), (23, .quiet), (21, .keep), (24, .pure), (25, .pure), (26, .pure), (27, .pure), (28, .quiet), (29, .pure), (30, .quiet), (31, .pure), (32, .pure), (33, .quiet), (34, .pure), (35, .pure), (36, .pure), (37, .pure), (38, .quiet), (39, .keep), (40, .pure), (41, .pure)]
def pP7_10 : List (Nat × PS) := [(0, .pure), (1, .quiet), (2, .pure), (3, .pure), (4, .quiet), (5, .pure), (6, .quiet), (7, .keep), (8, .pure), (9, .keep), (10, .last)]
def pP37_1 : List (Nat × PS) := [(0, .pure), (1, .pure), (3, .quiet), (2, .keep), (4, .pure), (5, .keep), (6, .pure)]
def pP38_1 : List (Nat × PS) := [(0, .pure), (1, .pure), (3, .quiet), (2, .keep), (4, .pure), (5, .keep), (6, .pure)]
def pP46_7 : List (Nat × PS) := [(0, .pure), (1, .pure), (2, .pure), (3, .pure), (4, .pure), (5, .pure), (6, .pure), (7, .pure), (8, .pure), (9, .pure), (10, .pure), (11, .pure), (12, .last), (13, .last), (14, .last)]
def pP46_8 : List (Nat × PS) := [(0, .pure), (1, .pure), (2, .pure), (3, .pure), (4, .pure), (5, .pure), (6, .pure), (7, .pure), (8, .pure), (9, .pure), (10, .pure), (11, .pure), (12, .last), (13, .last), (14, .last)]
def pP46_9 : List (Nat × PS) := [(0, .pure), (1, .pure), (2, .pure), (3, .pure), (4, .pure), (5, .pure), (6, .pure), (7, .pure), (8, .pure), (9, .pure), (10, .pure), (11, .pure), (12, .last), (13, .last), (14, .last)]
def pP46_10 : List (Nat × PS) := [(0, .pure), (1, .pure), (2, .pure), (3, .pure), (4, .pure), (5, .pure), (6, .pure), (7, .pure), (8, .pure), (9, .pure), (10, .pure), (11, .pure), (12, .last), (13, .last), (14, .last)]
def pP46_17 : List (Nat × PS) := [(0, .pure), (1, .pure), (2, .pure), (3, .pure), (4, .pure), (5, .pure), (6, .pure), (7, .pure), (8, .pure), (9, .pure), (10, .pure), (11, .pure), (12, .last), (13, .last), (14, .last)]
def pP46_18 : List (Nat × PS) := [(0, .pure), (1, .pure), (2, .pure), (3, .pure), (4, .pure), (5, .pure), (6, .pure), (7, .pure), (8, .pure), (9, .pure), (10, .pure), (11, .pure), (12, .last), (13, .last), (14, .last)]
def pP46_23 : List (Nat × PS) := [(0, .pure), (1, .pure), (2, .pure), (3, .pure), (4, .pure), (5, .pure), (6, .pure), (7, .pure), (8, .pure), (9, .pure), (10, .pure), (11, .pure), (12, .last), (13, .last), (14, .last)]
end Go.Proofs.YteogjiadmgbmbaaDoor
