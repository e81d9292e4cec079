import Derived.Test.YtjfmbdigfnablaaGreatZCode2
namespace Go.Av
end Go.Av
