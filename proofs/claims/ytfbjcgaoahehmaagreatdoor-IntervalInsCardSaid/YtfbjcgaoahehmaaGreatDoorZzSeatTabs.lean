/- The tables that the program's variables hold. -/

namespace Go.ZzAb
end Go.ZzAb
